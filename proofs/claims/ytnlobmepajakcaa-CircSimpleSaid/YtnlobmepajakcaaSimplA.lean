/- What circ.exclusive and circ.simplified do; the condition: the literals' meanings lie within 65,537, the gate has as many as its kind wants, and at most 2^40. -/
import Derived.Test.YtnlobmepajakcaaGather
import Derived.Test.YtnlobmepajakcaaTail
import Derived.Test.YtnlobmepajakcaaLeafA
set_option linter.unusedVariables false
set_option linter.unusedSimpArgs false
namespace Go.Proofs.Ytnlobmepajakcaa
open Go.RowKit Go.Shelf

/-- The meaning of an exclusive or that has one (T: what is always true). -/
def exclP (T a b : Int) : Int := if a = -T then b else if a = T then -b else if b = -T then a else if b = T then -a else if a = b then -T else T
set_option maxHeartbeats 2000000 in
theorem exclusive_any (a b : Int) (w : World) (ha : -65537 ≤ a ∧ a ≤ 65537) (hb : -65537 ≤ b ∧ b ≤ 65537) :
    Calls Try.prog 99 #[.int .i64 a, .int .i64 b] w fun e w' => e = .returned (.int .i64 (exclP 65537 a b)) ∧ w' = w := by
  obtain ⟨ha1, ha2⟩ := ha
  obtain ⟨hb1, hb2⟩ := hb
  have key : ∀ r, exclP 65537 a b = r → Calls Try.prog 99 #[.int .i64 a, .int .i64 b] w fun e w' => e = .returned (.int .i64 r) ∧ w' = w := by
    intro r hr
    unfold exclP at hr
    by_cases h1 : a = -65537
    · rw [if_pos h1] at hr
      subst hr
      have g1 : (a == -65537) = true := by rw [beq_iff_eq]; exact h1
      clear h1
      go_enter Try.func99, Try.ntmps99
      go_wp2
      go_ret
      exact ⟨rfl, rfl⟩
    · rw [if_neg h1] at hr
      have g1 : (a == -65537) = false := by rw [beq_eq_false_iff_ne]; exact h1
      by_cases h2 : a = 65537
      · rw [if_pos h2] at hr
        subst hr
        have g2 : (a == 65537) = true := by rw [beq_iff_eq]; exact h2
        clear h1 h2
        go_enter Try.func99, Try.ntmps99
        go_wp2
        go_ret
        exact ⟨rfl, rfl⟩
      · rw [if_neg h2] at hr
        have g2 : (a == 65537) = false := by rw [beq_eq_false_iff_ne]; exact h2
        by_cases h3 : b = -65537
        · rw [if_pos h3] at hr
          subst hr
          have g3 : (b == -65537) = true := by rw [beq_iff_eq]; exact h3
          clear h1 h2 h3
          go_enter Try.func99, Try.ntmps99
          go_wp2
          go_ret
          exact ⟨rfl, rfl⟩
        · rw [if_neg h3] at hr
          have g3 : (b == -65537) = false := by rw [beq_eq_false_iff_ne]; exact h3
          by_cases h4 : b = 65537
          · rw [if_pos h4] at hr
            subst hr
            have g4 : (b == 65537) = true := by rw [beq_iff_eq]; exact h4
            clear h1 h2 h3 h4
            go_enter Try.func99, Try.ntmps99
            go_wp2
            go_ret
            exact ⟨rfl, rfl⟩
          · rw [if_neg h4] at hr
            have g4 : (b == 65537) = false := by rw [beq_eq_false_iff_ne]; exact h4
            by_cases h5 : a = b
            · rw [if_pos h5] at hr
              subst hr
              have g5 : (a == b) = true := by rw [beq_iff_eq]; exact h5
              clear h1 h2 h3 h4 h5
              go_enter Try.func99, Try.ntmps99
              go_wp2
              go_ret
              exact ⟨rfl, rfl⟩
            · rw [if_neg h5] at hr
              subst hr
              have g5 : (a == b) = false := by rw [beq_eq_false_iff_ne]; exact h5
              clear h1 h2 h3 h4 h5
              go_enter Try.func99, Try.ntmps99
              go_wp2
              go_ret
              exact ⟨rfl, rfl⟩
  exact key _ rfl

/-- What simplified hands back: a meaning, and the gate with its kind and literals. -/
def SimplPost (w : World) (x : Int) (v0 : Value) (m k : Int) (ins : List Int) (e : Ending) (w' : World) : Prop :=
  Below w.heap.size w w' ∧ ∃ v, e = .returned (.tuple #[.int .i64 m, .agg #[.int .i64 x, .int .u8 k, v]]) ∧ IntsAt w' v ins ∧ (v = v0 ∨ ∀ b, v.ownBlock = some b → w.heap.size ≤ b)

theorem IntsAt.kept {w w' : World} {v : Value} {xs : List Int} (h : IntsAt w v xs) {row : Option Nat} (hg : w.grownBy w' row) (hne : ∀ b, v.ownBlock = some b → row ≠ some b) : IntsAt w' v xs := by
  obtain ⟨A, c, rfl, h1, h2, h3⟩ := h
  refine ⟨A, c, rfl, h1, h2, fun hp => ?_⟩
  obtain ⟨b, off, rfl, h4⟩ := h3 hp
  exact ⟨b, off, rfl, fun j x hx => ⟨hg.cell (h4 j x hx).1 (fun e => hne b rfl e.symm), (h4 j x hx).2⟩⟩
/-- Three stores into the block of the result. -/
def put3 (W : World) (b : Nat) (x k : Int) (v : Value) : World := ((W.setCell ⟨b, 0, none⟩ (.int .i64 x)).setCell ⟨b, 1, none⟩ (.int .u8 k)).setCell ⟨b, 2, none⟩ v
theorem put3_below {w W : World} (h : Below w.heap.size w W) (b : Nat) (hb : w.heap.size ≤ b) (x k : Int) (v : Value) : Below w.heap.size w (put3 W b x k v) :=
  ((h.setCell (p := ⟨b, 0, none⟩) hb _).setCell (p := ⟨b, 1, none⟩) hb _).setCell (p := ⟨b, 2, none⟩) hb _
theorem put3_grown (W : World) (b : Nat) (x k : Int) (v : Value) : W.grownBy (put3 W b x k v) (some b) :=
  ((grown_setCell W ⟨b, 0, none⟩ _).trans (grown_setCell _ ⟨b, 1, none⟩ _)).trans (grown_setCell _ ⟨b, 2, none⟩ _)
theorem simpl_old {w W : World} {x : Int} {v0 : Value} {m k : Int} {ins : List Int} (h : IntsAt w v0 ins) (hB : Below w.heap.size w W) :
    SimplPost w x v0 m k ins (.returned (.tuple #[.int .i64 m, .agg #[.int .i64 x, .int .u8 k, v0]])) (put3 W (w.heap.size + 1) x k v0) := by
  have hp := put3_below hB (w.heap.size + 1) (by omega) x k v0
  exact ⟨hp, v0, rfl, h.keep (keeps_below hp), .inl rfl⟩

set_option maxHeartbeats 2000000 in
set_option maxRecDepth 100000 in
theorem simplified_xor0 (x a b : Int) (v0 : Value) (w : World) (h : IntsAt w v0 [a, b]) (ha : -65537 ≤ a ∧ a ≤ 65537) (hb : -65537 ≤ b ∧ b ≤ 65537)
    (g1 : (a == -65537) = false) (g2 : (a == 65537) = false) (g3 : (b == -65537) = false) (g4 : (b == 65537) = false) (g5 : (a == b) = false) (g6 : (a == -b) = false) :
    Calls Try.prog 88 #[.agg #[.int .i64 x, .int .u8 3, v0]] w (SimplPost w x v0 0 3 [a, b]) := by
  obtain ⟨A, c, e0, hlc, hcm⟩ := SlAt.form h
  replace e0 : v0 = .slice A 2 c := e0
  replace hlc : 2 ≤ c := hlc
  subst e0
  obtain ⟨bi, off, rfl, hx, -⟩ := h.at_ 0 a rfl
  obtain ⟨_, _, e, hy, -⟩ := h.at_ 1 b rfl
  cases e
  rw [Nat.add_zero] at hx
  obtain ⟨ha1, ha2⟩ := ha
  obtain ⟨hb1, hb2⟩ := hb
  obtain ⟨W1, hW1, -, -, hz1, hB1, hh1⟩ := new_block w #[.int .i64 x, .int .u8 3, .slice (some ⟨bi, off, none⟩) 2 c] 70
  obtain ⟨W2, hW2, -, -, hz2, hB2, hh2⟩ := new_block W1 #[.int .i64 0, .int .u8 0, .slice none 0 0] 70
  rw [hz1] at hh2 hz2
  have hr1 := row_below hh1 hB2
  have hBB := below_then hB1 hB1.size hB2
  have hx2 := keeps_below hBB _ _ hx
  have hy2 := keeps_below hBB _ _ hy
  have hp0 : W2.cell? ⟨w.heap.size, 0, none⟩ = some (.int .i64 x) := cell_row hr1 rfl
  have hp1 : W2.cell? ⟨w.heap.size, 1, none⟩ = some (.int .u8 3) := cell_row hr1 rfl
  have hp2 : W2.cell? ⟨w.heap.size, 2, none⟩ = some (.slice (some ⟨bi, off, none⟩) 2 c) := cell_row hr1 rfl
  have HZ := hid hz1
  have HH := hid h
  clear hx hy h hB1 hB2 hh1 hz2
  go_enter Try.func88, Try.ntmps88
  go_wp2_with fail
  go_quiet (fail)
  go_wp2_with fail
  obtain ⟨W3, hW3⟩ : ∃ W3, W2.drewN nq = W3 := ⟨_, rfl⟩
  have hB3 : Below W2.heap.size W2 W3 := by rw [← hW3]; exact below_drewN (Below.refl _ _) _
  rw [hW3]
  have hr13 := row_below hr1 hB3
  have hr23 := row_below hh2 hB3
  have hB03 := below_then hBB hBB.size hB3
  have hq0 : ∀ p, (since W3 p).cell? ⟨w.heap.size, 0, none⟩ = some (.int .i64 x) := fun p => cell_since (cell_row hr13 rfl) p
  have hq1 : ∀ p, (since W3 p).cell? ⟨w.heap.size, 1, none⟩ = some (.int .u8 3) := fun p => cell_since (cell_row hr13 rfl) p
  have hq2 : ∀ p, (since W3 p).cell? ⟨w.heap.size, 2, none⟩ = some (.slice (some ⟨bi, off, none⟩) 2 c) := fun p => cell_since (cell_row hr13 rfl) p
  clear hW3 hB3 hp0 hp1 hp2 hr1 hh2 hx2 hy2 hBB hW1 hW2
  refine region_tail 2 (by kernel_rfl) (by kernel_rfl) ?_
  simp only [List.take_succ_cons, List.take_zero, List.drop_succ_cons, List.drop_zero]
  repeat (first | go_big_quiet_step ((fail)) | quiet_step ((fail)))
  refine wpQuiet_nil ?_
  rintro W ⟨pw, hW⟩
  have hBW : Below W3.heap.size W3 W := by rw [hW]; exact since_below W3 pw
  have hrW := row_below hr23 hBW
  have hw0 : W.cell? ⟨w.heap.size + 1, 0, none⟩ = some (.int .i64 0) := cell_row hrW rfl
  have hw1 : W.cell? ⟨w.heap.size + 1, 1, none⟩ = some (.int .u8 0) := cell_row hrW rfl
  have hw2 : W.cell? ⟨w.heap.size + 1, 2, none⟩ = some (.slice none 0 0) := cell_row hrW rfl
  have hwf : ∀ j, W.frozen? ⟨w.heap.size + 1, j, none⟩ = false := fun j => frozen_of_row _ _ _ _ _ hrW
  have hBE := below_then hB03 hB03.size hBW
  clear hW hq0 hq1 hq2 hr13 hr23
  go_wp2_with fail
  refine bodyPost_ret (v := .tuple #[.int .i64 0, .agg #[.int .i64 x, .int .u8 3, .slice (some ⟨bi, off, none⟩) 2 c]]) (by simp [results, Try.results88, go_sem, hw0, hw1, hw2]) rfl ?_
  exact simpl_old HH.out hBE
end Go.Proofs.Ytnlobmepajakcaa
