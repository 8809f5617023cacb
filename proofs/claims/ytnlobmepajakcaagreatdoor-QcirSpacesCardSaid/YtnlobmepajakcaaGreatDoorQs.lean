/- Read of the text of a valid net gives the net; no condition. -/
import Derived.Test.YtnlobmepajakcaaGreatDoorQr
set_option linter.unusedVariables false
set_option linter.unusedSimpArgs false
namespace Go.Proofs.YtnlobmepajakcaaGreatDoor
open Go.RowKit Go.Shelf

/-! ### The lines of the text -/
def textL (N : PNet) : List Bs := [35, 81, 67, 73, 82, 45, 49, 52] :: (N.pre.map blockB ++ outB N.out :: N.gates.map gateB)
theorem no_nl_digits {t : Bs} {n : Nat} (h : DigOk t n) : ∀ c ∈ t, c ≠ 10 := fun c hc e => by
  have := isDig_iff.1 (h.dig c hc)
  subst e
  have h10 : (10 : UInt8).toNat = 10 := rfl
  omega
theorem no_nl_int (x : Int) : ∀ c ∈ intP x, c ≠ 10 := fun c hc => by
  unfold intP at hc
  split at hc
  · rcases List.mem_cons.1 hc with rfl | hc
    · decide
    · exact no_nl_digits (digP_ok _) c hc
  · exact no_nl_digits (digP_ok _) c hc
theorem no_nl_lits : ∀ (l : List Int), ∀ c ∈ litsP l, c ≠ 10
  | [], c, hc => by cases hc
  | [x], c, hc => no_nl_int x c hc
  | x :: y :: xs, c, hc => by
    simp only [litsP, List.mem_append, List.mem_cons, List.not_mem_nil, or_false] at hc
    rcases hc with (hc | rfl | rfl) | hc
    · exact no_nl_int x c hc
    · decide
    · decide
    · exact no_nl_lits (y :: xs) c hc
theorem no_nl_list (l : List Int) : ∀ c ∈ listB l, c ≠ 10 := fun c hc => by
  unfold listB at hc
  simp only [List.mem_cons, List.mem_append, List.not_mem_nil, or_false] at hc
  rcases hc with rfl | hc | rfl
  · decide
  · exact no_nl_lits l c hc
  · decide
theorem no_nl_word {w : Bs} (h : ∀ c ∈ w, isLow c = true) : ∀ c ∈ w, c ≠ 10 := fun c hc e => by
  have := h c hc
  subst e
  cases this
theorem no_nl_kind (k : Int) : ∀ c ∈ kindW k, c ≠ 10 := by
  unfold kindW
  split
  · exact no_nl_word (by decide)
  · split
    · exact no_nl_word (by decide)
    · split
      · exact no_nl_word (by decide)
      · exact no_nl_word (by decide)
theorem no_nl_block (b : PBlock) : ∀ c ∈ blockB b, c ≠ 10 := fun c hc => by
  unfold blockB at hc
  rw [List.mem_append] at hc
  rcases hc with hc | hc
  · split at hc
    · exact no_nl_word (w := wExists) (by decide) c hc
    · exact no_nl_word (w := wForall) (by decide) c hc
  · exact no_nl_list _ c hc
theorem no_nl_out (x : Int) : ∀ c ∈ outB x, c ≠ 10 := fun c hc => by
  unfold outB at hc
  rw [List.mem_append] at hc
  rcases hc with hc | hc
  · exact no_nl_word (w := wOutput) (by decide) c hc
  · exact no_nl_list _ c hc
theorem no_nl_gate (g : PGate) : ∀ c ∈ gateB g, c ≠ 10 := fun c hc => by
  unfold gateB at hc
  simp only [List.mem_append, List.mem_cons] at hc
  rcases hc with hc | rfl | rfl | rfl | hc | hc
  · exact no_nl_int _ c hc
  · decide
  · decide
  · decide
  · exact no_nl_kind _ c hc
  · exact no_nl_list _ c hc
theorem split_many {α : Type} (f : α → Bs) (hf : ∀ x, ∀ c ∈ f x, c ≠ 10) : ∀ (xs : List α) (s : Bs), splitNL (xs.flatMap (fun x => f x ++ [10]) ++ s) = xs.map f ++ splitNL s
  | [], s => rfl
  | x :: xs, s => by
    rw [List.flatMap_cons, List.append_assoc, List.append_assoc, List.singleton_append, split_line _ _ (hf x), split_many f hf xs s]
    rfl
theorem text_lines (N : PNet) : splitNL (textP N) = textL N := by
  have eb : N.pre.flatMap blockS = N.pre.flatMap (fun x => blockB x ++ [10]) := by
    congr 1
    funext b
    unfold blockS blockB listS listB
    simp
  have eg : N.gates.flatMap gateS = N.gates.flatMap (fun x => gateB x ++ [10]) := by
    congr 1
    funext g
    unfold gateS gateB listS listB
    simp
  have e : textP N = [35, 81, 67, 73, 82, 45, 49, 52] ++ 10 :: (N.pre.flatMap (fun x => blockB x ++ [10]) ++ (outB N.out ++ 10 :: (N.gates.flatMap (fun x => gateB x ++ [10]) ++ []))) := by
    unfold textP
    rw [eb, eg]
    unfold headP outB listS listB
    simp
  rw [e, split_line _ _ (by decide), split_many _ no_nl_block, split_line _ _ (no_nl_out _), split_many _ no_nl_gate]
  simp [textL, splitNL]

/-! ### What is read of them -/
theorem lines_step {L : Bs → PLine} {r r' : RS} {no : Nat} {t : Bs} {ts : List Bs} (hb : blankB t = false) (h : addL r no (L t) = (0, r')) : linesP L r no (t :: ts) = linesP L r' (no + 1) ts := by
  rw [linesP, if_neg (by rw [hb]; simp), h]
  simp
theorem blank_of {c : UInt8} {t : Bs} (h1 : c ≠ 35) (h2 : c ≠ 32) : blankB (c :: t) = false := by
  unfold blankB
  simp [h1, h2]
theorem blank_block (b : PBlock) : blankB (blockB b) = false := by
  unfold blockB
  split
  · exact blank_of (by decide) (by decide)
  · exact blank_of (by decide) (by decide)
theorem blank_gate {g : PGate} (h : 1 ≤ g.var) : blankB (gateB g) = false := by
  unfold gateB intP
  rw [if_neg (by omega)]
  have D := digP_ok g.var.toNat
  cases hd : digP g.var.toNat with
  | nil => exact absurd hd D.ne
  | cons c t =>
    have hc := isDig_iff.1 (D.dig c (by rw [hd]; simp))
    refine blank_of ?_ ?_
    · rintro rfl
      have h35 : (35 : UInt8).toNat = 35 := rfl
      omega
    · rintro rfl
      have h32 : (32 : UInt8).toNat = 32 := rfl
      omega
theorem decl_vars : ∀ (vs : List Int) {n : Nat} {S : Nat → Bool} {r : Nat × (Nat → Bool)}, addVars n S vs = some r → declP S vs = some r.2 ∧ r.1 = n + vs.length ∧ (vs ≠ [] → r.1 ≤ 1024)
  | [], n, S, r, h => by injection h with h; subst h; exact ⟨rfl, rfl, fun h => absurd rfl h⟩
  | v :: vs, n, S, r, h => by
    obtain ⟨h1, h2, h3⟩ := addVars_cons h
    obtain ⟨k1, k2, k3⟩ := decl_vars vs h3
    have hS := (addB_iff.1 h2).2.2
    refine ⟨by rw [declP, if_neg (by rw [hS]; simp)]; exact k1, by simp; omega, fun _ => ?_⟩
    cases vs with
    | nil => injection h3 with h3; subst h3; simp at k2; omega
    | cons x xs => exact k3 (by simp)
theorem read_blocks : ∀ (bs : List PBlock) (r : RS) (no : Nat) (S' : Nat → Bool) (ts : List Bs), r.done = false → prefFrom (r.pre.getLast?.map (·.ex)) r.vars r.seen bs = some S' →
    ∃ n b, linesP scanL r no (bs.map blockB ++ ts) = linesP scanL { r with pre := r.pre ++ bs, seen := S', vars := n, begun := b } (no + bs.length) ts
  | [], r, no, S', ts, hd, h => by
    injection h with h
    subst h
    exact ⟨r.vars, r.begun, by simp⟩
  | b :: bs, r, no, S', ts, hd, h => by
    unfold prefFrom at h
    by_cases hv : b.vars = []
    · rw [if_pos hv] at h; cases h
    · rw [if_neg hv] at h
      by_cases hx : r.pre.getLast?.map (·.ex) = some b.ex
      · rw [if_pos hx] at h; cases h
      · rw [if_neg hx] at h
        cases ha : addVars r.vars r.seen b.vars with
        | none => rw [ha] at h; cases h
        | some q =>
          rw [ha] at h
          obtain ⟨k1, k2, k3⟩ := decl_vars b.vars ha
          have hrng := (addVars_rng b.vars ha).1
          have eA : addBlock r.pre b.ex b.vars = r.pre ++ [b] := by
            unfold addBlock
            cases hl : r.pre.getLast? with
            | none => simp only [if_neg hv]
            | some x =>
              have : x.ex ≠ b.ex := fun e => hx (by rw [hl]; simp [e])
              simp only [if_neg this, if_neg hv]
          have hw : (decide ((if b.ex = true then (2 : Nat) else 3) ≠ 3)) = b.ex := by cases b.ex <;> rfl
          have hstep : addL r no (scanL (blockB b)) = (0, { r with seen := q.2, vars := q.1, begun := true, pre := r.pre ++ [b] }) := by
            rw [scan_block hrng, addL]
            have hc : ¬ (r.done = true ∨ ((if b.ex = true then (2 : Nat) else 3) = 1 ∧ r.begun = true)) := by
              rw [hd]
              rintro (h | h)
              · cases h
              · have h1 := h.1
                split at h1 <;> omega
            rw [if_neg hc, k1]
            have := k3 hv
            simp only
            rw [if_neg (by omega), hw, eA, k2]
          obtain ⟨n, bb, e⟩ := read_blocks bs { r with seen := q.2, vars := q.1, begun := true, pre := r.pre ++ [b] } (no + 1) S' ts hd (by simpa using h)
          refine ⟨n, bb, ?_⟩
          rw [List.map_cons, List.cons_append, lines_step (blank_block b) hstep, e]
          simp only [List.append_assoc, List.singleton_append, List.length_cons]
          congr 1
          omega
theorem kind_of_shape {k : Int} {n : Nat} (h : shapedB k n = true) : (1 ≤ k ∧ k ≤ 4) ∧ ¬ ((k = 3 ∧ n ≠ 2) ∨ (k = 4 ∧ n ≠ 3)) := by
  unfold shapedB at h
  split at h
  · omega
  · split at h
    · omega
    · split at h
      · simp at h; omega
      · split at h
        · simp at h; omega
        · cases h
theorem read_gates : ∀ (gs : List PGate) (r : RS) (no : Nat) (S' : Nat → Bool), r.done = true → SetR r.seen → mayGates r.seen gs = some S' → r.lits + litSum gs ≤ 200000 →
    ∃ n at_, linesP scanL r no (gs.map gateB) = ((0, 0), { r with gates := r.gates ++ gs, seen := S', lits := n, at_ := at_ })
  | [], r, no, S', hd, hR, h, hl => by
    injection h with h
    subst h
    exact ⟨r.lits, r.at_, by simp [linesP]⟩
  | g :: gs, r, no, S', hd, hR, h, hl => by
    obtain ⟨h1, h2, h3, h4⟩ := mayGates_cons h
    obtain ⟨hv1, hv2, hv3⟩ := addB_iff.1 h3
    obtain ⟨hk, hnk⟩ := kind_of_shape h1
    obtain ⟨k, hkk⟩ := Int.eq_ofNat_of_zero_le (show 0 ≤ g.kind by omega)
    have hlits : ∀ x ∈ g.ins, LitOk x := fun x hx => by
      have := hR _ (h2 x hx)
      obtain ⟨p1, p2, p3⟩ := absN_pos this.1
      exact ⟨p3, p1, p2⟩
    have eg : g = ⟨g.var, k, g.ins⟩ := by
      obtain ⟨a, b, c⟩ := g
      simp only at hkk
      rw [hkk]
    have hls : litSum (g :: gs) = g.ins.length + litSum gs := rfl
    have hstep : addL r no (scanL (gateB g)) = (0, { r with seen := upd r.seen g.var.toNat true, lits := r.lits + g.ins.length, gates := r.gates ++ [g], at_ := r.at_ ++ [no] }) := by
      have es : scanL (gateB g) = .gate g.var k g.ins := by
        conv => lhs; rw [eg]
        exact scan_gate ⟨hv1, hv2⟩ (by omega) hlits
      rw [es, addL, if_neg (by rw [hd]; simp), if_neg (by intro h; apply hnk; rw [hkk]; omega), if_neg (by rw [hv3]; simp), if_neg (by omega), ← eg]
    obtain ⟨n, at_, e⟩ := read_gates gs { r with seen := upd r.seen g.var.toNat true, lits := r.lits + g.ins.length, gates := r.gates ++ [g], at_ := r.at_ ++ [no] } (no + 1) S' hd (hR.upd h3) h4 (by simp only; omega)
    refine ⟨n, at_, ?_⟩
    rw [List.map_cons, lines_step (blank_gate hv1) hstep, e]
    simp
theorem stray_none {S : Nat → Bool} : ∀ (gs : List PGate) (ns : List Nat), (∀ g ∈ gs, ∀ l ∈ g.ins, S (absN l) = true) → strayP S gs ns = none
  | [], ns, _ => by cases ns <;> rfl
  | g :: gs, [], _ => rfl
  | g :: gs, n :: ns, h => by
    have hn : (g.ins.any fun l => !S (absN l)) = false := by
      rw [List.any_eq_false]
      intro l hl
      rw [h g (by simp) l hl]
      simp
    rw [strayP, if_neg (by rw [hn]; simp)]
    exact stray_none gs ns (fun x hx => h x (by simp [hx]))
theorem lines_net {N : PNet} (hM : mayP N = true) : ∃ r, linesP scanL rs0 1 (textL N) = ((0, 0), r) ∧ endR r = (N, 0, 0) := by
  obtain ⟨hpre, hlits, S, hS, hout⟩ := mayP_pre hM
  have hps : (prefFrom none 0 noS N.pre).isSome = true := by rw [hpre]; rfl
  have hR := preS_R hps
  obtain ⟨n, b, e1⟩ := read_blocks N.pre rs0 2 (preS N) (outB N.out :: N.gates.map gateB) rfl (by simpa [rs0] using hpre)
  have hl : LitOk N.out := by
    obtain ⟨p1, p2, p3⟩ := absN_pos (may_lits hM).2
    exact ⟨p3, p1, p2⟩
  have e2 : addL { rs0 with pre := rs0.pre ++ N.pre, seen := preS N, vars := n, begun := b } (2 + N.pre.length) (scanL (outB N.out)) =
      (0, { rs0 with pre := N.pre, seen := preS N, vars := n, begun := b, done := true, outAt := 2 + N.pre.length, out := N.out }) := by
    rw [scan_out hl, addL, if_neg (by simp [rs0])]
    simp [rs0]
  obtain ⟨n2, at_, e3⟩ := read_gates N.gates { rs0 with pre := N.pre, seen := preS N, vars := n, begun := b, done := true, outAt := 2 + N.pre.length, out := N.out } (2 + N.pre.length + 1) S rfl hR hS (by simpa [rs0] using hlits)
  have e0 : linesP scanL rs0 1 (textL N) = linesP scanL rs0 2 (N.pre.map blockB ++ outB N.out :: N.gates.map gateB) := by
    unfold textL
    rw [linesP, if_pos (by decide)]
  refine ⟨_, by rw [e0, e1, lines_step (by exact blank_of (by decide) (by decide)) e2, e3], ?_⟩
  have hu := may_used N.gates hS
  have hk := may_known N.gates hS
  unfold endR
  simp only [rs0, List.nil_append]
  rw [if_neg (by simp), if_neg (by rw [hout]; simp), stray_none _ _ hk]
  simp only
  rw [order_same hM]
  rfl
theorem read_text {N : PNet} (hM : mayP N = true) (hlen : (textP N).length ≤ 4194304) : readP (textP N) = (N, 0, 0) := by
  obtain ⟨r, h1, h2⟩ := lines_net hM
  unfold readP readW
  rw [if_neg (by omega), text_lines, h1]
  exact h2
end Go.Proofs.YtnlobmepajakcaaGreatDoor
