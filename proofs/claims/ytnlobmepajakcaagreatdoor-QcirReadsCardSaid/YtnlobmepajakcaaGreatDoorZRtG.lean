/- What add of the document's reader does with an output line; the condition: texts have at most 2^22 bytes. -/
import Derived.Test.YtnlobmepajakcaaGreatDoorZRtF
set_option linter.unusedVariables false
set_option linter.unusedSimpArgs false
namespace Go.Proofs.YtnlobmepajakcaaGreatDoor
open Go.RowKit Go.Shelf
attribute [local go_sem] Oper.semAt_some

/-- What a function of the document's reader leaves as it is: all blocks below n0 but the reader's two. -/
structure Fr2 (n0 r q : Nat) (w w' : World) : Prop where
  os : w'.os = w.os
  tape : w'.tape = w.tape
  output : w'.output = w.output
  size : w.heap.size ≤ w'.heap.size
  block : ∀ k, k < n0 → k ≠ r → k ≠ q → w'.heap[k]? = w.heap[k]?
theorem Fr2.refl (n0 r q : Nat) (w : World) : Fr2 n0 r q w w := ⟨rfl, rfl, rfl, Nat.le_refl _, fun _ _ _ _ => rfl⟩
theorem Fr2.trans {n0 r q : Nat} {a b c : World} (h : Fr2 n0 r q a b) (k : Fr2 n0 r q b c) : Fr2 n0 r q a c :=
  ⟨k.os.trans h.os, k.tape.trans h.tape, k.output.trans h.output, Nat.le_trans h.size k.size, fun i hi h1 h2 => (k.block i hi h1 h2).trans (h.block i hi h1 h2)⟩
theorem Fr2.grown {n0 r q : Nat} {a b c : World} {row : Option Nat} (h : Fr2 n0 r q a b) (hn : n0 ≤ b.heap.size) (hg : b.grownBy c row) (hr : ∀ k, row = some k → k = r ∨ k = q ∨ n0 ≤ k) : Fr2 n0 r q a c :=
  h.trans ⟨hg.os, hg.tape, hg.output, hg.size, fun i hi h1 h2 => hg.block i (by omega) (fun e => by rcases hr i e.symm with h | h | h <;> omega)⟩
theorem Fr2.below {n0 r q : Nat} {a b : World} (h : Below n0 a b) : Fr2 n0 r q a b := ⟨h.os, h.tape, h.output, h.size, fun i hi _ _ => h.block i hi⟩
theorem Fr2.fr {n0 r q : Nat} {a b : World} (h : Fr n0 r a b) : Fr2 n0 r q a b := ⟨h.os, h.tape, h.output, h.size, fun i hi h1 _ => h.block i hi h1⟩
/-- The document's reader, whole. -/
structure RdrR (w : World) (n0 r q : Nat) (R : RS) (no : Nat) : Prop where
  rn : r < n0
  qn : q < n0
  size : n0 ≤ w.heap.size
  ok : RSok R no
  mem : ∃ pv gv av, RwAt w r q pv gv av R ∧ ((R.done = false ∧ gv = .slice none 0 0 ∧ av = .slice none 0 0 ∧ R.gates = [] ∧ R.at_ = [] ∧ OutAt w n0 pv R.pre) ∨
    (R.done = true ∧ ∃ n1, n0 ≤ n1 ∧ n1 ≤ w.heap.size ∧ PreAt w n0 n1 pv R.pre ∧ GA w n1 gv av R.gates (R.outAt :: R.at_)))
theorem RdrR.below {w w' : World} {n0 r q : Nat} {R : RS} {no : Nat} (h : RdrR w n0 r q R no) (hB : Below w.heap.size w w') : RdrR w' n0 r q R no := by
  refine ⟨h.rn, h.qn, Nat.le_trans h.size hB.size, h.ok, ?_⟩
  obtain ⟨pv, gv, av, h1, h2⟩ := h.mem
  refine ⟨pv, gv, av, h1.below hB, ?_⟩
  rcases h2 with ⟨a1, a2, a3, a4, a5, a6⟩ | ⟨a1, n1, a2, a3, a4, a5⟩
  · exact .inl ⟨a1, a2, a3, a4, a5, a6.below hB⟩
  · exact .inr ⟨a1, n1, a2, Nat.le_trans a3 hB.size, a4.keep (fun k _ hk => hB.block k (by omega)), a5.keep hB.size (fun k _ hk => hB.block k hk)⟩
theorem own_fresh {W : World} {g base : Nat} {x : Value} (h : W.heap[g]? = some (.cells #[x] 3 (0, 0))) (hb : base ≤ g) : W.ownsRow base 3 1 (.slice (some ⟨g, 0, none⟩) 1 1) 1 [x] :=
  ⟨rfl, .inr ⟨g, 1, #[x], rfl, hb, h, Nat.le_refl _, by unfold maxLen; omega, rfl, rfl⟩⟩
/-- What add hands back. -/
def AddPost (n0 r q no : Nat) (R : RS) (P : PLine) (w : World) (e : Ending) (w' : World) : Prop :=
  e = .returned (.int .i64 (addL R no P).1) ∧ Fr2 n0 r q w w' ∧ ((addL R no P).1 = 0 → RdrR w' n0 r q (addL R no P).2 (no + 1))
set_option maxRecDepth 100000 in
set_option maxHeartbeats 4000000 in
theorem addOut_any (n0 r q no : Nat) (R : RS) (x : Int) (A : Option Addr) (c base : Nat) (w : World) (hR : RdrR w n0 r q R no) (hl : w.ownsRow base 3 1 (.slice A 1 c) 1 (nums [x])) (hb : n0 ≤ base) (hx : -65536 ≤ x ∧ x ≤ 65536) (hno : no ≤ 4194305) :
    Calls Tryz.prog 66 #[.pointer (some ⟨r, 0, none⟩), .agg #[.string ⟨#[111, 117, 116, 112, 117, 116]⟩, .slice A 1 c, .int .i64 0], .int .i64 (no : Int)] w (AddPost n0 r q no R (.out x) w) := by
  obtain ⟨pv, gv, av, hA, hph⟩ := hR.mem
  obtain ⟨g, cap, hAc, hg1, hg2, hg3⟩ := own_form hl (by omega)
  injection hAc with e1 e2 e3
  subst e1; subst e3
  have cx : w.cell? ⟨g, 0, none⟩ = some (.int .i64 x) := hl.cellAt 0 (by omega)
  obtain ⟨w1, hw1, -, -, hz1, hB1, q1⟩ := new_block w #[.string ⟨#[111, 117, 116, 112, 117, 116]⟩, .slice (some ⟨g, 0, none⟩) 1 c, .int .i64 0] 113
  have z0 := cell_row q1 (j := 0) (v := .string ⟨#[111, 117, 116, 112, 117, 116]⟩) rfl
  have z1 := cell_row q1 (j := 1) (v := .slice (some ⟨g, 0, none⟩) 1 c) rfl
  have z2 := cell_row q1 (j := 2) (v := .int .i64 0) rfl
  have hA1 := hA.below hB1
  have hR1 := hR.below hB1
  have cx1 := keeps_below hB1 _ _ cx
  have c6 := cell_row hA1.row (j := 6) (v := .int .i64 (stg R)) rfl
  have f6 := frozen_of_row _ _ 6 _ _ hA1.row
  have hn1 : n0 ≤ w1.heap.size := hR1.size
  have hF1 : Fr2 n0 r q w w1 := Fr2.below (hB1.mono hR.size)
  have hrz : r ≠ w.heap.size := by have := hR.rn; have := hR.size; omega
  cases hd : R.done with
  | true =>
    have hst : stg R = 2 := by unfold stg; rw [if_pos hd]
    have HP := hid (show addL R no (.out x) = (5, R) by unfold addL; simp [hd])
    rw [hst] at c6
    clear hst hd
    go_enter Tryz.func66, Tryz.ntmps66
    go_wp2_with fail
    go_ret
    unfold AddPost
    rw [HP.out]
    exact ⟨rfl, hF1, fun h => absurd h (by simp)⟩
  | false =>
    have hst : (stg R == 2) = false := by unfold stg; rw [if_neg (by rw [hd]; simp)]; split <;> decide
    have HP := hid (show addL R no (.out x) = (0, { R with done := true, outAt := no, out := x }) by unfold addL; simp [hd])
    generalize hsg : stg R = sg at c6 hst
    have HD := hid hd
    rcases hph with ⟨-, rfl, rfl, h4, h5, h6⟩ | ⟨h0, _⟩
    · have hA2 : RwAt (w1.setCell ⟨r, 6, none⟩ (.int .i64 2)) r q pv (.slice none 0 0) (.slice none 0 0) { R with done := true } := hA1.put 6 _ rfl rfl
      obtain ⟨w2, hw2⟩ : ∃ w2, w1.setCell ⟨r, 6, none⟩ (.int .i64 2) = w2 := ⟨_, rfl⟩
      have g2 : w1.grownBy w2 (some r) := by rw [← hw2]; exact grown_setCell w1 ⟨r, 6, none⟩ _
      rw [hw2] at hA2
      have hgr : g ≠ r := by have := hR.rn; omega
      have hzr : w.heap.size ≠ r := fun e => hrz e.symm
      have y1 := g2.cell z1 (by intro e; injection e with e; exact hzr e)
      have cx2 := g2.cell cx1 (by intro e; injection e with e; exact hgr e)
      have k2 := cell_row hA2.row (j := 2) (v := .int .i64 R.out) rfl
      have kf2 := frozen_of_row _ _ 2 _ _ hA2.row
      have hA3 : RwAt (w2.setCell ⟨r, 2, none⟩ (.int .i64 x)) r q pv (.slice none 0 0) (.slice none 0 0) { R with done := true, out := x } := hA2.put 2 _ rfl rfl
      obtain ⟨w3, hw3⟩ : ∃ w3, w2.setCell ⟨r, 2, none⟩ (.int .i64 x) = w3 := ⟨_, rfl⟩
      have g3 : w2.grownBy w3 (some r) := by rw [← hw3]; exact grown_setCell w2 ⟨r, 2, none⟩ _
      rw [hw3] at hA3
      obtain ⟨w4, hw4, -, -, hz4, hB4, q4⟩ := new_block w3 #[.int .i64 (no : Int)] 3
      have hA4 := hA3.below hB4
      have k7 := cell_row hA4.row (j := 7) (v := .slice none 0 0) rfl
      have kf7 := frozen_of_row _ _ 7 _ _ hA4.row
      have hn3 : n0 ≤ w3.heap.size := by have := g2.size; have := g3.size; omega
      have HOW := own_fresh (base := w3.heap.size) q4 (Nat.le_refl _)
      have hA5 : RwAt (w4.setCell ⟨r, 7, none⟩ (.slice (some ⟨w3.heap.size, 0, none⟩) 1 1)) r q pv (.slice none 0 0) (.slice (some ⟨w3.heap.size, 0, none⟩) 1 1) { R with done := true, outAt := no, out := x } := by
        have h := hA4.put (R' := { R with done := true, outAt := no, out := x }) 7 (.slice (some ⟨w3.heap.size, 0, none⟩) 1 1) rfl rfl
        exact h
      have g5 : w4.grownBy (w4.setCell ⟨r, 7, none⟩ (.slice (some ⟨w3.heap.size, 0, none⟩) 1 1)) (some r) := grown_setCell w4 ⟨r, 7, none⟩ _
      have hF3 : Fr2 n0 r q w w3 := (hF1.grown hn1 g2 (fun k e => by cases e; exact .inl rfl)).grown (by have := g2.size; omega) g3 (fun k e => by cases e; exact .inl rfl)
      have HX := hid (And.intro hsg (And.intro h4 (And.intro h5 (And.intro h6 (And.intro hd hx)))))
      clear hsg h4 h5 h6 hd hx hl
      go_enter Tryz.func66, Tryz.ntmps66
      go_wp2_with (first | (at_builtin; refine step_append_run rfl _ _ 48 rfl _ _ _ rfl rfl (run_append_empty w3.heap.size _ _ 1 _ HOW none 0) ?_) | fail)
      go_ret
      unfold AddPost
      rw [HP.out]
      generalize w4.setCell ⟨r, 7, none⟩ (.slice (some ⟨w3.heap.size, 0, none⟩) 1 1) = w5 at *
      obtain ⟨hsg, h4, h5, h6, hd, hx⟩ := HX.out
      have hk := hR.ok
      have hF5 : Fr2 n0 r q w w5 := (hF3.trans (Fr2.below (hB4.mono hn3))).grown (by have := hB4.size; omega) g5 (fun k e => by cases e; exact .inl rfl)
      refine ⟨rfl, hF5, fun _ => ⟨hR.rn, hR.qn, by have := g5.size; have := hB4.size; omega, ⟨hk.vars, hk.nv, hk.lits, hk.pre, Nat.le_succ_of_le hk.prel, Nat.le_succ_of_le hk.gl, hk.al, hk.gs, hx⟩, pv, _, _, hA5, .inr ⟨rfl, w3.heap.size, hn3, by have := g5.size; have := hB4.size; omega, ?_, ?_⟩⟩⟩
      · have h6' : OutAt w3 n0 pv R.pre := h6.keepB hF3.size (fun k hk hk2 => by
          rw [g3.block k (by have := g2.size; have := hB1.size; omega) (by intro e; injection e with e; have := hR.rn; omega), g2.block k (by have := hB1.size; omega) (by intro e; injection e with e; have := hR.rn; omega)]
          exact hB1.block k hk2)
        exact ⟨w3, rfl, h6', fun k hk hk2 => (g5.block k (by have := hB4.size; omega) (by intro e; injection e with e; have := hR.rn; omega)).trans (hB4.block k hk2)⟩
      · simp only [h4, h5]
        have hrow5 := row_grown q4 g5 (by intro e; injection e with e; have := hR.rn; omega)
        exact ⟨[], fun _ => False, rfl, World.ownsRow_nil _ _ _ _, own_fresh hrow5 (Nat.le_refl _), fun _ h => h.elim, fun b h h' => (by cases h'), fun i t g ht hg => (by simp at ht)⟩
    · rw [HD.out] at h0; cases h0
end Go.Proofs.YtnlobmepajakcaaGreatDoor
