/- Bounds of what a line says, as the document's reader reads it; the condition: lines have at most 2^22 bytes / The three results of Read of the document's reader; no condition / What Read of the document's reader does with a text that is too long; no condition / What the document's reader of texts keeps to, in plain words; no condition. -/
import Derived.Test.YtnlobmepajakcaaGreatDoorZRdO
import Derived.Test.YtnlobmepajakcaaGreatDoorZRtE
import Derived.Test.YtnlobmepajakcaaGreatDoorZRtH
import Derived.Test.YtnlobmepajakcaaGreatDoorZRdR
set_option linter.unusedVariables false
set_option linter.unusedSimpArgs false
namespace Go.Proofs.YtnlobmepajakcaaGreatDoor
open Go.RowKit Go.Shelf

theorem sign_len (c : UInt8) (s : Bs) : (signP c s).2.length ≤ s.length := by
  unfold signP
  split
  · have := sp_len s.tail
    simp only []
    have h2 : s.tail.length ≤ s.length := by simp
    omega
  · exact Nat.le_refl _
theorem needP_le (c : UInt8) (s : Scan) : (needP c s).rest.length ≤ s.rest.length := sign_len c s.rest
theorem number_le (s : Scan) : (numberP s).2.rest.length ≤ s.rest.length := by
  have h := sp_len (s.rest.dropWhile isDig)
  have h2 := dropWhile_len isDig s.rest
  unfold numberP
  split <;> (simp only []; omega)
theorem gateL_bounds (s : Scan) (hs : s.rest.length ≤ 4194304) {v : Int} {k : Nat} {l : List Int} (h : gateL s = .gate v k l) : (∀ x ∈ l, -65536 ≤ x ∧ x ≤ 65536) ∧ l.length ≤ 4194306 := by
  unfold gateL at h
  simp only [] at h
  split at h
  · injection h with _ _ h
    subst h
    refine ⟨listP_small literalP_bound _, ?_⟩
    have h1 := listP_len literalP ⟨(takeP isLow (needP 61 (numberP s).2).rest).2, (needP 61 (numberP s).2).ok⟩
    have h2 := takeP_len isLow (needP 61 (numberP s).2).rest
    have h3 := needP_le 61 (numberP s).2
    have h4 := number_le s
    simp only [] at h1
    omega
  · cases h
theorem otherL_bounds (s : Scan) (hs : s.rest.length ≤ 4194304) : (∀ x, otherL s = .out x → -65536 ≤ x ∧ x ≤ 65536) ∧ (∀ k l, otherL s = .block k l → (∀ x ∈ l, 0 ≤ x ∧ x ≤ 65536) ∧ l.length ≤ 4194306) ∧ ∀ v k l, otherL s ≠ .gate v k l := by
  have h2 := takeP_len isLow s.rest
  unfold otherL
  simp only []
  split
  · have hsm := listP_small literalP_bound ⟨(takeP isLow s.rest).2, s.ok⟩
    generalize listP literalP ⟨(takeP isLow s.rest).2, s.ok⟩ = r at *
    obtain ⟨l, r2⟩ := r
    simp only [] at hsm ⊢
    refine ⟨fun x hx => ?_, fun k l' hx => ?_, fun v k l' hx => ?_⟩
    · split at hx
      · split at hx
        · injection hx with hx
          subst hx
          exact hsm _ (by simp)
        · cases hx
      · cases hx
    · split at hx
      · split at hx <;> cases hx
      · cases hx
    · split at hx
      · split at hx <;> cases hx
      · cases hx
  · split
    · exact ⟨fun x hx => by (cases hx), fun k l hx => by (cases hx), fun v k l hx => by (cases hx)⟩
    · have hsm := listP_small (fun s => numberP_bound s) ⟨(takeP isLow s.rest).2, s.ok⟩
      have hln := listP_len numberP ⟨(takeP isLow s.rest).2, s.ok⟩
      simp only [] at hln
      split
      · refine ⟨fun x hx => by (cases hx), fun k l hx => ?_, fun v k l hx => by (cases hx)⟩
        injection hx with _ hx
        subst hx
        exact ⟨fun x hx => by have := hsm x hx; omega, by omega⟩
      · exact ⟨fun x hx => by (cases hx), fun k l hx => by (cases hx), fun v k l hx => by (cases hx)⟩
theorem tokL_bounds (t : Bs) (ht : t.length ≤ 4194304) : (∀ v k l, tokL t = .gate v k l → (∀ x ∈ l, -65536 ≤ x ∧ x ≤ 65536) ∧ l.length ≤ 4194306) ∧ (∀ x, tokL t = .out x → -65536 ≤ x ∧ x ≤ 65536) ∧ (∀ k l, tokL t = .block k l → (∀ x ∈ l, 0 ≤ x ∧ x ≤ 65536) ∧ l.length ≤ 4194306) := by
  rw [← scan_tok]
  have hsp := sp_len t
  unfold scanL
  simp only []
  split
  · refine ⟨fun v k l h => gateL_bounds _ (by simp only []; omega) h, fun x h => ?_, fun k l h => ?_⟩
    · unfold gateL at h; simp only [] at h; split at h <;> cases h
    · unfold gateL at h; simp only [] at h; split at h <;> cases h
  · obtain ⟨h1, h2, h3⟩ := otherL_bounds ⟨sp t, true⟩ (by simp only []; omega)
    exact ⟨fun v k l h => absurd h (h3 v k l), h1, h2⟩
end Go.Proofs.YtnlobmepajakcaaGreatDoor
namespace Go.Proofs.YtnlobmepajakcaaGreatDoor
open Go.RowKit Go.Shelf

theorem results_row_tmp2Q {P : Program} {fn : Func} {p u x : Tmp} {ty : TypeId} (h : fn.results = #[.cell p ty, .tmp u, .tmp x]) (tmps : Array Value) (w : World) (g : Nat) (t : TypeId) (cs : Array Value) (fr : Nat × Nat) (d : TypeDesc)
    (hp : tmps.getD p undef = .pointer (some ⟨g, 0, none⟩)) (hg : w.heap[g]? = some (.cells cs t fr))
    (hu : P.underlying ty = some d) (hd : (match d with | .struct _ | .array _ _ => true | _ => false) = true) (hi : (P.info? ty).map (·.size) = some cs.size) :
    (results fn tmps).run P w = .ok (.tuple #[.agg cs, tmps.getD u undef, tmps.getD x undef]) w := by
  have hp' : tmps[p]?.getD undef = .pointer (some ⟨g, 0, none⟩) := by simpa using hp
  simp [results, h, hp', asAddr, run_loadVar_row w g t ty cs fr d hg hu hd hi, Result.andThen, Sem.run_bind]
end Go.Proofs.YtnlobmepajakcaaGreatDoor
namespace Go.Proofs.YtnlobmepajakcaaGreatDoor
open Go.RowKit Go.Shelf
attribute [local go_sem] Oper.semAt_some

theorem readR_eq (s : Bs) : readW tokL s = readP s := by
  unfold readP
  rw [show (tokL : Bs → PLine) = scanL from funext fun t => (scan_tok t).symm]
theorem noNet_at (w : World) : NetAt w (.agg #[.slice none 0 0, .slice none 0 0, .int .i64 0]) noNet :=
  ⟨.slice none 0 0, .slice none 0 0, rfl, by unfold I64; decide, ⟨none, 0, rfl, Nat.le_refl _, by omega, fun h => by cases h⟩, ⟨none, 0, rfl, Nat.le_refl _, by omega, fun h => by cases h⟩⟩
end Go.Proofs.YtnlobmepajakcaaGreatDoor
namespace Go.Proofs.YtnlobmepajakcaaGreatDoor
open Go.RowKit Go.Shelf

theorem rok_end {R : RS} (h : ROk R) : litSum R.gates ≤ 200000 ∧ R.gates.length ≤ 100000 ∧ ∀ x ∈ R.pre, x.vars ≠ [] := by
  obtain ⟨S0, _, h2, _⟩ := h.vars
  have h3 := good_len h2
  have h4 := h.lits
  have h5 := h.lim
  exact ⟨by omega, by omega, alt_ne h.alt⟩
theorem tokL_eq : (tokL : Bs → PLine) = scanL := funext fun t => (scan_tok t).symm
theorem lines_end {R : RS} {k : Nat} {ts : List Bs} (h : linesP tokL rs0 1 ts = linesP tokL R k []) : ROk R := by
  rw [tokL_eq] at h
  exact lines_rok ts rs0_rok h
theorem read_end2 {s : Bs} {R : RS} {k : Nat} (hl : ¬ 4194304 < s.length) (h : linesP tokL rs0 1 (splitNL s) = linesP tokL R k []) : readW tokL s = endR R := by
  unfold readW
  rw [if_neg hl, h]
  rfl
theorem read_err2 {s : Bs} {R : RS} {k : Nat} {t : Bs} {ts : List Bs} (hl : ¬ 4194304 < s.length) (h : linesP tokL rs0 1 (splitNL s) = linesP tokL R k (t :: ts)) (hb : blankB t = false) (he : (addL R k (tokL t)).1 ≠ 0) : readW tokL s = (noNet, k, (addL R k (tokL t)).1) := by
  unfold readW
  rw [if_neg hl, h, lines_err hb he]
  unfold doneR
  simp only []
  rw [if_neg he]
theorem absN_nat {x : Int} (h : -65536 ≤ x ∧ x ≤ 65536) : absN x = x.natAbs := by
  unfold absN absI
  split <;> omega
theorem endR_undone {R : RS} (h : R.done = false) : endR R = (noNet, 0, 5) := by unfold endR; rw [if_pos h]
theorem endR_out {R : RS} (h : R.done = true) (h2 : R.seen (absN R.out) = false) : endR R = (noNet, R.outAt, 6) := by unfold endR; rw [if_neg (by rw [h]; simp), if_pos h2]
theorem endR_stray {R : RS} {n : Nat} (h : R.done = true) (h2 : R.seen (absN R.out) = true) (h3 : strayP R.seen R.gates R.at_ = some n) : endR R = (noNet, n, 6) := by
  unfold endR; rw [if_neg (by rw [h]; simp), if_neg (by rw [h2]; simp), h3]
theorem endR_order {R : RS} (h : R.done = true) (h2 : R.seen (absN R.out) = true) (h3 : strayP R.seen R.gates R.at_ = none) : endR R = endO R (orderP (varsOf R.pre) R.gates) := by
  unfold endR; rw [if_neg (by rw [h]; simp), if_neg (by rw [h2]; simp), h3]
theorem endO_err {R : RS} {o : List PGate} {e : Int} (h : e ≠ 0) : endO R (o, e) = (noNet, 0, e) := by unfold endO; simp only []; rw [if_neg h]
theorem endO_ok (R : RS) (o : List PGate) : endO R (o, 0) = (⟨R.pre, o, R.out⟩, 0, 0) := by unfold endO; simp only []; rfl
theorem stray_end (S : Nat → Bool) (ns : List Nat) : strayP S [] ns = none := by cases ns <;> rfl
theorem stray_at2 {S : Nat → Bool} {gs : List PGate} {ns : List Nat} {j : Nat} {g : PGate} {n : Nat} (hg : gs[j]? = some g) (hn : ns[j]? = some n) : strayP S (gs.drop j) (ns.drop j) = if (g.ins.any fun l => !S (absN l)) = true then some n else strayP S (gs.drop (j + 1)) (ns.drop (j + 1)) := by
  rw [drop_one hg, drop_one hn, stray_cons]
theorem any_drop {l : List Int} {i : Nat} {c : Int} (p : Int → Bool) (h : l[i]? = some c) : (l.drop i).any p = (p c || (l.drop (i + 1)).any p) := by rw [drop_one h, List.any_cons]
end Go.Proofs.YtnlobmepajakcaaGreatDoor
