/- What output of qcir's reader does; the condition: texts have at most 2^22 bytes. -/
import Derived.Test.YtnlobmepajakcaaGreatDoorZRdS
set_option linter.unusedVariables false
set_option linter.unusedSimpArgs false
namespace Go.Proofs.YtnlobmepajakcaaGreatDoor
open Go.RowKit Go.Shelf

/-- The prefix, read as it was when the heap had n1 blocks. -/
def PreAt (w : World) (n0 n1 : Nat) (pv : Value) (p : List PBlock) : Prop := ∃ wS : World, wS.heap.size = n1 ∧ OutAt wS n0 pv p ∧ ∀ k, n0 ≤ k → k < n1 → w.heap[k]? = wS.heap[k]?
theorem PreAt.keep {w w' : World} {n0 n1 : Nat} {pv : Value} {p : List PBlock} (h : PreAt w n0 n1 pv p) (hk : ∀ k, n0 ≤ k → k < n1 → w'.heap[k]? = w.heap[k]?) : PreAt w' n0 n1 pv p := by
  obtain ⟨wS, h1, h2, h3⟩ := h
  exact ⟨wS, h1, h2, fun k a b => (hk k a b).trans (h3 k a b)⟩
theorem PreAt.out {w : World} {n0 n1 : Nat} {pv : Value} {p : List PBlock} (h : PreAt w n0 n1 pv p) (hs : n1 ≤ w.heap.size) : OutAt w n0 pv p := by
  obtain ⟨wS, h1, h2, h3⟩ := h
  exact h2.keepB (by omega) (fun k a b => h3 k a (by omega))
/-- What the reader's state keeps to behind no lines. -/
structure RSok (R : RS) (no : Nat) : Prop where
  vars : R.vars ≤ 1024
  nv : (varsOf R.pre).length = R.vars
  lits : R.lits ≤ 200000
  pre : ∀ x ∈ R.pre, ∀ y ∈ x.vars, 0 ≤ y ∧ y ≤ 65536
  prel : R.pre.length ≤ no
  gl : R.gates.length ≤ no
  al : R.at_.length = R.gates.length
  gs : ∀ g ∈ R.gates, (0 ≤ g.var ∧ g.var ≤ 65536) ∧ (0 ≤ g.kind ∧ g.kind ≤ 255) ∧ ∀ x ∈ g.ins, -65536 ≤ x ∧ x ≤ 65536
  out : -65536 ≤ R.out ∧ R.out ≤ 65536
/-- The reader in memory. -/
structure Rdr (w : World) (n0 r : Nat) (R : RS) (no : Nat) : Prop where
  nine : 9 ≤ r
  lt : r < n0
  size : n0 ≤ w.heap.size
  ok : RSok R no
  mem : ∃ pv gv av, RdAt w r pv gv av R ∧ ((R.done = false ∧ gv = .slice none 0 0 ∧ av = .slice none 0 0 ∧ R.gates = [] ∧ R.at_ = [] ∧ OutAt w n0 pv R.pre) ∨
    (R.done = true ∧ ∃ n1, n0 ≤ n1 ∧ n1 ≤ w.heap.size ∧ PreAt w n0 n1 pv R.pre ∧ GA w n1 gv av R.gates R.at_))
theorem Rdr.below {w w' : World} {n0 r : Nat} {R : RS} {no : Nat} (h : Rdr w n0 r R no) (hB : Below w.heap.size w w') : Rdr w' n0 r R no := by
  refine ⟨h.nine, h.lt, Nat.le_trans h.size hB.size, h.ok, ?_⟩
  obtain ⟨pv, gv, av, h1, h2⟩ := h.mem
  refine ⟨pv, gv, av, h1.heap (hB.block r h1.lt), ?_⟩
  rcases h2 with ⟨a1, a2, a3, a4, a5, a6⟩ | ⟨a1, n1, a2, a3, a4, a5⟩
  · exact .inl ⟨a1, a2, a3, a4, a5, a6.below hB⟩
  · exact .inr ⟨a1, n1, a2, Nat.le_trans a3 hB.size, a4.keep (fun k _ hk => hB.block k (by omega)), a5.keep hB.size (fun k _ hk => hB.block k hk)⟩
theorem Rdr.more {w : World} {n0 r : Nat} {R : RS} {no no' : Nat} (h : Rdr w n0 r R no) (hn : no ≤ no') : Rdr w n0 r R no' :=
  ⟨h.nine, h.lt, h.size, ⟨h.ok.vars, h.ok.nv, h.ok.lits, h.ok.pre, Nat.le_trans h.ok.prel hn, Nat.le_trans h.ok.gl hn, h.ok.al, h.ok.gs, h.ok.out⟩, h.mem⟩

/-- What the rest of an output line says. -/
def outL (s : Scan) : PLine := match (listP literalP s).1 with
  | [x] => if (listP literalP s).2.ok = true then .out x else .bad
  | _ => .bad
def blockL (k : Nat) (s : Scan) : PLine := if (listP numberP s).2.ok = true then .block k (listP numberP s).1 else .bad
theorem listGo_len (el : Scan → Int × Scan) : ∀ (f : Nat) (l : List Int) (s : Scan), (listGo el f l s).1.length ≤ l.length + f
  | 0, l, s => by simp [listGo]
  | f + 1, l, s => by
    rw [listGo]
    split
    · have := listGo_len el f (roundP el l s).1 (roundP el l s).2
      have h2 : (roundP el l s).1.length = l.length + 1 := by simp [roundP]
      omega
    · simp only []; omega
theorem listP_len (el : Scan → Int × Scan) (s : Scan) : (listP el s).1.length ≤ s.rest.length + 2 := by
  have h1 := listGo_len el ((needP 40 s).rest.length + 2) [] (needP 40 s)
  have h2 := needP_len 40 s
  unfold listP listE
  simp at h1 ⊢
  omega
theorem listGo_small {el : Scan → Int × Scan} {a b : Int} (hel : ∀ s, a ≤ (el s).1 ∧ (el s).1 ≤ b) : ∀ (f : Nat) (l : List Int) (s : Scan), (∀ x ∈ l, a ≤ x ∧ x ≤ b) → ∀ x ∈ (listGo el f l s).1, a ≤ x ∧ x ≤ b
  | 0, l, s, h => by simpa [listGo] using h
  | f + 1, l, s, h => by
    rw [listGo]
    split
    · refine listGo_small hel f _ _ (fun x hx => ?_)
      unfold roundP at hx
      rcases List.mem_append.1 hx with hx | hx
      · exact h x hx
      · rw [List.mem_singleton.1 hx]; exact hel _
    · exact h
theorem listP_small {el : Scan → Int × Scan} {a b : Int} (hel : ∀ s, a ≤ (el s).1 ∧ (el s).1 ≤ b) (s : Scan) : ∀ x ∈ (listP el s).1, a ≤ x ∧ x ≤ b :=
  listGo_small hel _ _ _ (fun x hx => by simp at hx)
theorem list_lit (b : Nat) (w : World) (hb9 : 9 ≤ b) (hE : Env w) (s : Scan) (h : ScanAt w b s) (hl : s.rest.length ≤ 4194304) :
    Calls Tryz.prog 126 #[.pointer (some ⟨b, 0, none⟩), .func (.func 127) #[.pointer (some ⟨b, 0, none⟩)] #[]] w fun e w' => ∃ A c, e = .returned (.slice A (listP literalP s).1.length c) ∧ ScanAt w' b (listP literalP s).2 ∧ w.grownBy w' (some b) ∧
      w'.ownsRow w.heap.size 3 1 (.slice A (listP literalP s).1.length c) (listP literalP s).1.length (nums (listP literalP s).1) :=
  list_any 127 literalP elok_literal b w hb9 hE (enters_of Tryz.func127 (by kernel_rfl) rfl) (fun s w h hl hE => literal_any b s w h (by omega) hE hb9) s h hl
theorem list_num (b : Nat) (w : World) (hb9 : 9 ≤ b) (hE : Env w) (s : Scan) (h : ScanAt w b s) (hl : s.rest.length ≤ 4194304) :
    Calls Tryz.prog 126 #[.pointer (some ⟨b, 0, none⟩), .func (.func 123) #[.pointer (some ⟨b, 0, none⟩)] #[]] w fun e w' => ∃ A c, e = .returned (.slice A (listP numberP s).1.length c) ∧ ScanAt w' b (listP numberP s).2 ∧ w.grownBy w' (some b) ∧
      w'.ownsRow w.heap.size 3 1 (.slice A (listP numberP s).1.length c) (listP numberP s).1.length (nums (listP numberP s).1) :=
  list_any 123 numberP elok_number b w hb9 hE (enters_of Tryz.func123 (by kernel_rfl) rfl) (fun s w h hl hE => number_any b s w h (by omega) hE hb9) s h hl
set_option maxRecDepth 100000 in
set_option maxHeartbeats 1000000 in
theorem output_any (n0 r b no : Nat) (R : RS) (s : Scan) (wL w : World) (hR : Rdr wL n0 r R no) (hB : Below wL.heap.size wL w) (hb : wL.heap.size ≤ b) (hs : ScanAt w b s) (hl : s.rest.length ≤ 4194304) (hE : Env w) :
    Calls Tryz.prog 83 #[.pointer (some ⟨r, 0, none⟩), .pointer (some ⟨b, 0, none⟩), .int .i64 (no : Int)] w fun e w' =>
      e = .returned (.int .i64 (addL R no (outL s)).1) ∧ Fr n0 r w w' ∧ ((addL R no (outL s)).1 = 0 → Rdr w' n0 r (addL R no (outL s)).2 no) := by
  have hb9 : 9 ≤ b := by have := hR.nine; have := hR.lt; have := hR.size; omega
  have CL := list_lit b w hb9 hE s hs hl
  have hsm := listP_small literalP_bound s
  have hlen := listP_len literalP s
  have hLF : ∀ w1, w.grownBy w1 (some b) → Fr n0 r w w1 ∧ Below wL.heap.size wL w1 := fun w1 hg =>
    ⟨(Fr.refl n0 r w).grown (Nat.le_trans hR.size hB.size) hg (fun k e => by cases e; right; exact Nat.le_trans hR.size hb), hB.grown hg hB.size (fun k e => by cases e; exact hb)⟩
  generalize hls : listP literalP s = ls at *
  obtain ⟨l, ⟨rest, ok⟩⟩ := ls
  simp only [] at CL hsm hlen
  cases ok with
  | false =>
    have HP : addL R no (outL s) = (5, R) := by
      unfold outL
      rw [hls]
      rcases l with _ | ⟨x, _ | ⟨y, l⟩⟩ <;> rfl
    rw [HP]
    clear HP hls
    go_enter Tryz.func83, Tryz.ntmps83
    go_wp2_with (first | (go_at_call 126; refine CL.mono ?_; rintro e w1 ⟨A, c, rfl, h1, hg, hO⟩; have c1 := cell_row h1 (j := 1) rfl) | fail)
    go_ret
    exact ⟨rfl, (hLF w1 hg).1, fun h => absurd h (by decide)⟩
  | true =>
    by_cases hl1 : l.length = 1
    · obtain ⟨x, rfl⟩ := List.length_eq_one_iff.1 hl1
      have hO : outL s = .out x := by unfold outL; rw [hls]; rfl
      obtain ⟨pv, gv, av, hA, hph⟩ := hR.mem
      have hrl := hA.lt
      have hbr : b ≠ r := by omega
      have F : ∀ w1, Below wL.heap.size wL w1 → RdAt w1 r pv gv av R := fun w1 h => hA.heap (h.block r hrl)
      rw [hO]
      by_cases hd : R.done = true
      · have HP : addL R no (.out x) = (5, R) := by unfold addL; simp [hd]
        rw [HP]
        have HD := hid hd
        clear HP hls hO hd
        go_enter Tryz.func83, Tryz.ntmps83
        go_wp2_with (first | (go_at_call 126; refine CL.mono ?_; rintro e w1 ⟨A, c, rfl, h1, hg, hO⟩; have c1 := cell_row h1 (j := 1) rfl; have c2 := (F w1 (hLF w1 hg).2).cDone; rw [HD.out] at c2) | fail)
        go_ret
        exact ⟨rfl, (hLF w1 hg).1, fun h => absurd h (by decide)⟩
      · have hd : R.done = false := by simpa using hd
        have HP : addL R no (.out x) = (0, { R with done := true, outAt := no, out := x }) := by unfold addL; simp [hd]
        rw [HP]
        have HD := hid hd
        clear HP hls hO hd
        go_enter Tryz.func83, Tryz.ntmps83
        go_wp2_with fail
        go_at_call 126
        refine CL.mono ?_
        rintro e w1 ⟨A, c, rfl, h1, hg, hO⟩
        have c1 := cell_row h1 (j := 1) rfl
        have hA1 := F w1 (hLF w1 hg).2
        have c2 := hA1.cDone
        rw [HD.out] at c2
        have f1 := hA1.free 65543
        obtain ⟨g, cap, hAc, hg1, hg2, hg3⟩ := own_form hO (by simp)
        cases hAc
        have cx : w1.cell? ⟨g, 0, none⟩ = some (.int .i64 x) := hO.cellAt 0 (by simp)
        have hA2 := hA1.put 65543 (.bool true) (fun cs h => h.setDone true)
        have c3 := hA2.cOutAt
        have f3 := hA2.free 65545
        have hA3 := hA2.put 65545 (.int .i64 (no : Int)) (fun cs h => h.setOutAt no)
        have c4 := hA3.cOut
        have f4 := hA3.free 2
        have hA4 := hA3.put 2 (.int .i64 x) (fun cs h => h.setOut x)
        go_wp2_with fail
        go_ret
        have G : w1.grownBy (((w1.setCell ⟨r, 65543, none⟩ (.bool true)).setCell ⟨r, 65545, none⟩ (.int .i64 (no : Int))).setCell ⟨r, 2, none⟩ (.int .i64 x)) (some r) :=
          ((grown_setCell w1 ⟨r, 65543, none⟩ _).trans (grown_setCell _ ⟨r, 65545, none⟩ _)).trans (grown_setCell _ ⟨r, 2, none⟩ _)
        generalize (((w1.setCell ⟨r, 65543, none⟩ (.bool true)).setCell ⟨r, 65545, none⟩ (.int .i64 (no : Int))).setCell ⟨r, 2, none⟩ (.int .i64 x)) = W at *
        have hn1 : n0 ≤ w1.heap.size := Nat.le_trans hR.size (hLF w1 hg).2.size
        have hB1 := (hLF w1 hg).2
        refine ⟨rfl, (hLF w1 hg).1.grown hn1 G (fun k e => by cases e; exact .inl rfl), fun _ => ⟨hR.nine, hR.lt, Nat.le_trans hn1 G.size, ?_, pv, gv, av, hA4, .inr ⟨rfl, W.heap.size, Nat.le_trans hn1 G.size, Nat.le_refl _, ?_, ?_⟩⟩⟩
        · have hk := hR.ok
          exact ⟨hk.vars, hk.nv, hk.lits, hk.pre, hk.prel, hk.gl, hk.al, hk.gs, hsm x (by simp)⟩
        · rcases hph with ⟨-, rfl, rfl, h4, h5, h6⟩ | ⟨h0, _⟩
          · refine ⟨W, rfl, h6.keepB (Nat.le_trans hB1.size G.size) (fun k hk hk2 => ?_), fun _ _ _ => rfl⟩
            rw [G.block k (by have := hB1.size; omega) (by intro e; injection e with e; have := hR.lt; omega)]
            exact hB1.block k hk2
          · rw [HD.out] at h0; cases h0
        · rcases hph with ⟨-, rfl, rfl, h4, h5, h6⟩ | ⟨h0, _⟩
          · simp only [h4, h5]
            exact GA.nil _ _
          · rw [HD.out] at h0; cases h0
    · have HP : addL R no (outL s) = (5, R) := by
        unfold outL
        rw [hls]
        rcases l with _ | ⟨x, _ | ⟨y, l⟩⟩
        · rfl
        · exact absurd rfl hl1
        · rfl
      rw [HP]
      have hz : ((l.length : Int) == 1) = false := by rw [beq_eq_false_iff_ne]; omega
      clear HP hls hz
      go_enter Tryz.func83, Tryz.ntmps83
      go_wp2_with (first | (go_at_call 126; refine CL.mono ?_; rintro e w1 ⟨A, c, rfl, h1, hg, hO⟩; have c1 := cell_row h1 (j := 1) rfl) | fail)
      go_ret
      exact ⟨rfl, (hLF w1 hg).1, fun h => absurd h (by decide)⟩
end Go.Proofs.YtnlobmepajakcaaGreatDoor
