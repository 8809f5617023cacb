/- What circ.simplified does, case by case (printed by gen_simpl.py); the condition: the literals' meanings lie within 65,537, and there are at most 2^40 of them. -/
import Derived.Test.YtnlobmepajakcaaSimplA
set_option linter.unusedVariables false
set_option linter.unusedSimpArgs false
namespace Go.Proofs.Ytnlobmepajakcaa
open Go.RowKit Go.Shelf

theorem simpl_new {w W W' : World} {x : Int} {v0 v : Value} {m k : Int} {ins : List Int} (h : IntsAt W v ins) (hB : Below w.heap.size w W') (hk : Below W.heap.size W W') (hf : ∀ b, v.ownBlock = some b → w.heap.size + 2 ≤ b) :
    SimplPost w x v0 m k ins (.returned (.tuple #[.int .i64 m, .agg #[.int .i64 x, .int .u8 k, v]])) (put3 W' (w.heap.size + 1) x k v) := by
  have hp := put3_below hB (w.heap.size + 1) (by omega) x k v
  refine ⟨hp, v, rfl, (h.keep (keeps_below hk)).kept (put3_grown W' (w.heap.size + 1) x k v) (fun b hb e => ?_), .inr fun b hb => ?_⟩
  · injection e with e; have := hf b hb; omega
  · have := hf b hb; omega

set_option maxHeartbeats 4000000 in
set_option maxRecDepth 100000 in
theorem simplified_xor1 (x a b : Int) (v0 : Value) (w : World) (h : IntsAt w v0 [a, b]) (ha : -65537 ≤ a ∧ a ≤ 65537) (hb : -65537 ≤ b ∧ b ≤ 65537)
    (g0 : (a == -65537) = true) :
    Calls Try.prog 88 #[.agg #[.int .i64 x, .int .u8 3, v0]] w (SimplPost w x v0 (exclP 65537 a b) 3 [a, b]) := by
  obtain ⟨A, c0, e0, hlc, hcm⟩ := SlAt.form h
  replace e0 : v0 = .slice A 2 c0 := e0
  replace hlc : 2 ≤ c0 := hlc
  subst e0
  obtain ⟨bi, off, rfl, hx0, -⟩ := h.at_ 0 a rfl
  obtain ⟨_, _, e, hx1, -⟩ := h.at_ 1 b rfl
  cases e
  rw [Nat.add_zero] at hx0
  obtain ⟨ha1, ha2⟩ := ha
  obtain ⟨hb1, hb2⟩ := hb
  obtain ⟨W1, hW1, -, -, hz1, hB1, hh1⟩ := new_block w #[.int .i64 x, .int .u8 3, .slice (some ⟨bi, off, none⟩) 2 c0] 70
  obtain ⟨W2, hW2, -, -, hz2, hB2, hh2⟩ := new_block W1 #[.int .i64 0, .int .u8 0, .slice none 0 0] 70
  rw [hz1] at hh2 hz2
  have hr1 := row_below hh1 hB2
  have hBB := below_then hB1 hB1.size hB2
  have hp0 : W2.cell? ⟨w.heap.size, 0, none⟩ = some (.int .i64 x) := cell_row hr1 rfl
  have hp1 : W2.cell? ⟨w.heap.size, 1, none⟩ = some (.int .u8 3) := cell_row hr1 rfl
  have hp2 : W2.cell? ⟨w.heap.size, 2, none⟩ = some (.slice (some ⟨bi, off, none⟩) 2 c0) := cell_row hr1 rfl
  have HZ := hid hz1
  have HZ2 := hid (row_lt hh2)
  have hy0 := keeps_below hBB _ _ hx0
  have hy1 := keeps_below hBB _ _ hx1
  have HH := hid h
  clear hx0 hx1 h hB1 hB2 hh1 hz2
  go_enter Try.func88, Try.ntmps88
  go_wp2_with fail
  go_quiet (fail)
  obtain ⟨W3, hW3⟩ : ∃ W3, W2.drewN nq = W3 := ⟨_, rfl⟩
  have hB3 : Below W2.heap.size W2 W3 := by rw [← hW3]; exact below_drewN (Below.refl _ _) _
  rw [hW3]
  have hr13 := row_below hr1 hB3
  have hr23 := row_below hh2 hB3
  have hB03 := below_then hBB hBB.size hB3
  clear hW3 hB3 hp0 hp1 hp2 hr1 hh2 hy0 hy1 hBB hW1 hW2
  have CE : ∀ p, Calls Try.prog 99 #[.int .i64 a, .int .i64 b] (since W3 p) fun e w' => e = .returned (.int .i64 (exclP 65537 a b)) ∧ Below (since W3 p).heap.size (since W3 p) w' :=
    fun p => (exclusive_any a b _ ⟨ha1, ha2⟩ ⟨hb1, hb2⟩).mono fun e w' ⟨he, hw⟩ => ⟨he, by rw [hw]; exact Below.refl _ _⟩
  go_wp2_with fail
  have hq0 : ∀ p, (since W3 p).cell? ⟨w.heap.size, 0, none⟩ = some (.int .i64 x) := fun p => cell_since (cell_row hr13 rfl) p
  have hq1 : ∀ p, (since W3 p).cell? ⟨w.heap.size, 1, none⟩ = some (.int .u8 3) := fun p => cell_since (cell_row hr13 rfl) p
  have hq2 : ∀ p, (since W3 p).cell? ⟨w.heap.size, 2, none⟩ = some (.slice (some ⟨bi, off, none⟩) 2 c0) := fun p => cell_since (cell_row hr13 rfl) p
  refine region_tail 5 (by kernel_rfl) (by kernel_rfl) ?_
  simp only [List.take_succ_cons, List.take_zero, List.drop_succ_cons, List.drop_zero]
  repeat (first | go_big_quiet_step (((go_at_call 99; exact calls_since (CE _)))) | quiet_step (((go_at_call 99; exact calls_since (CE _)))))
  refine wpQuiet_nil ?_
  rintro W ⟨pw, hW⟩
  have hBW : Below W3.heap.size W3 W := by rw [hW]; exact since_below W3 pw
  have hrW := row_below hr23 hBW
  have hw0 : W.cell? ⟨w.heap.size + 1, 0, none⟩ = some (.int .i64 0) := cell_row hrW rfl
  have hw1 : W.cell? ⟨w.heap.size + 1, 1, none⟩ = some (.int .u8 0) := cell_row hrW rfl
  have hw2 : W.cell? ⟨w.heap.size + 1, 2, none⟩ = some (.slice none 0 0) := cell_row hrW rfl
  have hwf : ∀ j, W.frozen? ⟨w.heap.size + 1, j, none⟩ = false := fun j => frozen_of_row _ _ _ _ _ hrW
  have hBE := below_then hB03 hB03.size hBW
  clear hW hq0 hq1 hq2 hr13 hr23
  go_wp2_with fail
  refine bodyPost_ret (v := .tuple #[.int .i64 (exclP 65537 a b), .agg #[.int .i64 x, .int .u8 3, .slice (some ⟨bi, off, none⟩) 2 c0]]) (by simp [results, Try.results88, go_sem, hw0, hw1, hw2]) rfl ?_
  exact simpl_old HH.out hBE

set_option maxHeartbeats 4000000 in
set_option maxRecDepth 100000 in
theorem simplified_xor2 (x a b : Int) (v0 : Value) (w : World) (h : IntsAt w v0 [a, b]) (ha : -65537 ≤ a ∧ a ≤ 65537) (hb : -65537 ≤ b ∧ b ≤ 65537)
    (g0 : (a == -65537) = false)
    (g1 : (a == 65537) = true) :
    Calls Try.prog 88 #[.agg #[.int .i64 x, .int .u8 3, v0]] w (SimplPost w x v0 (exclP 65537 a b) 3 [a, b]) := by
  obtain ⟨A, c0, e0, hlc, hcm⟩ := SlAt.form h
  replace e0 : v0 = .slice A 2 c0 := e0
  replace hlc : 2 ≤ c0 := hlc
  subst e0
  obtain ⟨bi, off, rfl, hx0, -⟩ := h.at_ 0 a rfl
  obtain ⟨_, _, e, hx1, -⟩ := h.at_ 1 b rfl
  cases e
  rw [Nat.add_zero] at hx0
  obtain ⟨ha1, ha2⟩ := ha
  obtain ⟨hb1, hb2⟩ := hb
  obtain ⟨W1, hW1, -, -, hz1, hB1, hh1⟩ := new_block w #[.int .i64 x, .int .u8 3, .slice (some ⟨bi, off, none⟩) 2 c0] 70
  obtain ⟨W2, hW2, -, -, hz2, hB2, hh2⟩ := new_block W1 #[.int .i64 0, .int .u8 0, .slice none 0 0] 70
  rw [hz1] at hh2 hz2
  have hr1 := row_below hh1 hB2
  have hBB := below_then hB1 hB1.size hB2
  have hp0 : W2.cell? ⟨w.heap.size, 0, none⟩ = some (.int .i64 x) := cell_row hr1 rfl
  have hp1 : W2.cell? ⟨w.heap.size, 1, none⟩ = some (.int .u8 3) := cell_row hr1 rfl
  have hp2 : W2.cell? ⟨w.heap.size, 2, none⟩ = some (.slice (some ⟨bi, off, none⟩) 2 c0) := cell_row hr1 rfl
  have HZ := hid hz1
  have HZ2 := hid (row_lt hh2)
  have hy0 := keeps_below hBB _ _ hx0
  have hy1 := keeps_below hBB _ _ hx1
  have HH := hid h
  clear hx0 hx1 h hB1 hB2 hh1 hz2
  go_enter Try.func88, Try.ntmps88
  go_wp2_with fail
  go_quiet (fail)
  obtain ⟨W3, hW3⟩ : ∃ W3, W2.drewN nq = W3 := ⟨_, rfl⟩
  have hB3 : Below W2.heap.size W2 W3 := by rw [← hW3]; exact below_drewN (Below.refl _ _) _
  rw [hW3]
  have hr13 := row_below hr1 hB3
  have hr23 := row_below hh2 hB3
  have hB03 := below_then hBB hBB.size hB3
  clear hW3 hB3 hp0 hp1 hp2 hr1 hh2 hy0 hy1 hBB hW1 hW2
  have CE : ∀ p, Calls Try.prog 99 #[.int .i64 a, .int .i64 b] (since W3 p) fun e w' => e = .returned (.int .i64 (exclP 65537 a b)) ∧ Below (since W3 p).heap.size (since W3 p) w' :=
    fun p => (exclusive_any a b _ ⟨ha1, ha2⟩ ⟨hb1, hb2⟩).mono fun e w' ⟨he, hw⟩ => ⟨he, by rw [hw]; exact Below.refl _ _⟩
  go_wp2_with fail
  have hq0 : ∀ p, (since W3 p).cell? ⟨w.heap.size, 0, none⟩ = some (.int .i64 x) := fun p => cell_since (cell_row hr13 rfl) p
  have hq1 : ∀ p, (since W3 p).cell? ⟨w.heap.size, 1, none⟩ = some (.int .u8 3) := fun p => cell_since (cell_row hr13 rfl) p
  have hq2 : ∀ p, (since W3 p).cell? ⟨w.heap.size, 2, none⟩ = some (.slice (some ⟨bi, off, none⟩) 2 c0) := fun p => cell_since (cell_row hr13 rfl) p
  refine region_tail 5 (by kernel_rfl) (by kernel_rfl) ?_
  simp only [List.take_succ_cons, List.take_zero, List.drop_succ_cons, List.drop_zero]
  repeat (first | go_big_quiet_step (((go_at_call 99; exact calls_since (CE _)))) | quiet_step (((go_at_call 99; exact calls_since (CE _)))))
  refine wpQuiet_nil ?_
  rintro W ⟨pw, hW⟩
  have hBW : Below W3.heap.size W3 W := by rw [hW]; exact since_below W3 pw
  have hrW := row_below hr23 hBW
  have hw0 : W.cell? ⟨w.heap.size + 1, 0, none⟩ = some (.int .i64 0) := cell_row hrW rfl
  have hw1 : W.cell? ⟨w.heap.size + 1, 1, none⟩ = some (.int .u8 0) := cell_row hrW rfl
  have hw2 : W.cell? ⟨w.heap.size + 1, 2, none⟩ = some (.slice none 0 0) := cell_row hrW rfl
  have hwf : ∀ j, W.frozen? ⟨w.heap.size + 1, j, none⟩ = false := fun j => frozen_of_row _ _ _ _ _ hrW
  have hBE := below_then hB03 hB03.size hBW
  clear hW hq0 hq1 hq2 hr13 hr23
  go_wp2_with fail
  refine bodyPost_ret (v := .tuple #[.int .i64 (exclP 65537 a b), .agg #[.int .i64 x, .int .u8 3, .slice (some ⟨bi, off, none⟩) 2 c0]]) (by simp [results, Try.results88, go_sem, hw0, hw1, hw2]) rfl ?_
  exact simpl_old HH.out hBE

set_option maxHeartbeats 4000000 in
set_option maxRecDepth 100000 in
theorem simplified_xor3 (x a b : Int) (v0 : Value) (w : World) (h : IntsAt w v0 [a, b]) (ha : -65537 ≤ a ∧ a ≤ 65537) (hb : -65537 ≤ b ∧ b ≤ 65537)
    (g0 : (a == -65537) = false)
    (g1 : (a == 65537) = false)
    (g2 : (b == -65537) = true) :
    Calls Try.prog 88 #[.agg #[.int .i64 x, .int .u8 3, v0]] w (SimplPost w x v0 (exclP 65537 a b) 3 [a, b]) := by
  obtain ⟨A, c0, e0, hlc, hcm⟩ := SlAt.form h
  replace e0 : v0 = .slice A 2 c0 := e0
  replace hlc : 2 ≤ c0 := hlc
  subst e0
  obtain ⟨bi, off, rfl, hx0, -⟩ := h.at_ 0 a rfl
  obtain ⟨_, _, e, hx1, -⟩ := h.at_ 1 b rfl
  cases e
  rw [Nat.add_zero] at hx0
  obtain ⟨ha1, ha2⟩ := ha
  obtain ⟨hb1, hb2⟩ := hb
  obtain ⟨W1, hW1, -, -, hz1, hB1, hh1⟩ := new_block w #[.int .i64 x, .int .u8 3, .slice (some ⟨bi, off, none⟩) 2 c0] 70
  obtain ⟨W2, hW2, -, -, hz2, hB2, hh2⟩ := new_block W1 #[.int .i64 0, .int .u8 0, .slice none 0 0] 70
  rw [hz1] at hh2 hz2
  have hr1 := row_below hh1 hB2
  have hBB := below_then hB1 hB1.size hB2
  have hp0 : W2.cell? ⟨w.heap.size, 0, none⟩ = some (.int .i64 x) := cell_row hr1 rfl
  have hp1 : W2.cell? ⟨w.heap.size, 1, none⟩ = some (.int .u8 3) := cell_row hr1 rfl
  have hp2 : W2.cell? ⟨w.heap.size, 2, none⟩ = some (.slice (some ⟨bi, off, none⟩) 2 c0) := cell_row hr1 rfl
  have HZ := hid hz1
  have HZ2 := hid (row_lt hh2)
  have hy0 := keeps_below hBB _ _ hx0
  have hy1 := keeps_below hBB _ _ hx1
  have HH := hid h
  clear hx0 hx1 h hB1 hB2 hh1 hz2
  go_enter Try.func88, Try.ntmps88
  go_wp2_with fail
  go_quiet (fail)
  obtain ⟨W3, hW3⟩ : ∃ W3, W2.drewN nq = W3 := ⟨_, rfl⟩
  have hB3 : Below W2.heap.size W2 W3 := by rw [← hW3]; exact below_drewN (Below.refl _ _) _
  rw [hW3]
  have hr13 := row_below hr1 hB3
  have hr23 := row_below hh2 hB3
  have hB03 := below_then hBB hBB.size hB3
  clear hW3 hB3 hp0 hp1 hp2 hr1 hh2 hy0 hy1 hBB hW1 hW2
  have CE : ∀ p, Calls Try.prog 99 #[.int .i64 a, .int .i64 b] (since W3 p) fun e w' => e = .returned (.int .i64 (exclP 65537 a b)) ∧ Below (since W3 p).heap.size (since W3 p) w' :=
    fun p => (exclusive_any a b _ ⟨ha1, ha2⟩ ⟨hb1, hb2⟩).mono fun e w' ⟨he, hw⟩ => ⟨he, by rw [hw]; exact Below.refl _ _⟩
  go_wp2_with fail
  have hq0 : ∀ p, (since W3 p).cell? ⟨w.heap.size, 0, none⟩ = some (.int .i64 x) := fun p => cell_since (cell_row hr13 rfl) p
  have hq1 : ∀ p, (since W3 p).cell? ⟨w.heap.size, 1, none⟩ = some (.int .u8 3) := fun p => cell_since (cell_row hr13 rfl) p
  have hq2 : ∀ p, (since W3 p).cell? ⟨w.heap.size, 2, none⟩ = some (.slice (some ⟨bi, off, none⟩) 2 c0) := fun p => cell_since (cell_row hr13 rfl) p
  refine region_tail 5 (by kernel_rfl) (by kernel_rfl) ?_
  simp only [List.take_succ_cons, List.take_zero, List.drop_succ_cons, List.drop_zero]
  repeat (first | go_big_quiet_step (((go_at_call 99; exact calls_since (CE _)))) | quiet_step (((go_at_call 99; exact calls_since (CE _)))))
  refine wpQuiet_nil ?_
  rintro W ⟨pw, hW⟩
  have hBW : Below W3.heap.size W3 W := by rw [hW]; exact since_below W3 pw
  have hrW := row_below hr23 hBW
  have hw0 : W.cell? ⟨w.heap.size + 1, 0, none⟩ = some (.int .i64 0) := cell_row hrW rfl
  have hw1 : W.cell? ⟨w.heap.size + 1, 1, none⟩ = some (.int .u8 0) := cell_row hrW rfl
  have hw2 : W.cell? ⟨w.heap.size + 1, 2, none⟩ = some (.slice none 0 0) := cell_row hrW rfl
  have hwf : ∀ j, W.frozen? ⟨w.heap.size + 1, j, none⟩ = false := fun j => frozen_of_row _ _ _ _ _ hrW
  have hBE := below_then hB03 hB03.size hBW
  clear hW hq0 hq1 hq2 hr13 hr23
  go_wp2_with fail
  refine bodyPost_ret (v := .tuple #[.int .i64 (exclP 65537 a b), .agg #[.int .i64 x, .int .u8 3, .slice (some ⟨bi, off, none⟩) 2 c0]]) (by simp [results, Try.results88, go_sem, hw0, hw1, hw2]) rfl ?_
  exact simpl_old HH.out hBE

set_option maxHeartbeats 4000000 in
set_option maxRecDepth 100000 in
theorem simplified_xor4 (x a b : Int) (v0 : Value) (w : World) (h : IntsAt w v0 [a, b]) (ha : -65537 ≤ a ∧ a ≤ 65537) (hb : -65537 ≤ b ∧ b ≤ 65537)
    (g0 : (a == -65537) = false)
    (g1 : (a == 65537) = false)
    (g2 : (b == -65537) = false)
    (g3 : (b == 65537) = true) :
    Calls Try.prog 88 #[.agg #[.int .i64 x, .int .u8 3, v0]] w (SimplPost w x v0 (exclP 65537 a b) 3 [a, b]) := by
  obtain ⟨A, c0, e0, hlc, hcm⟩ := SlAt.form h
  replace e0 : v0 = .slice A 2 c0 := e0
  replace hlc : 2 ≤ c0 := hlc
  subst e0
  obtain ⟨bi, off, rfl, hx0, -⟩ := h.at_ 0 a rfl
  obtain ⟨_, _, e, hx1, -⟩ := h.at_ 1 b rfl
  cases e
  rw [Nat.add_zero] at hx0
  obtain ⟨ha1, ha2⟩ := ha
  obtain ⟨hb1, hb2⟩ := hb
  obtain ⟨W1, hW1, -, -, hz1, hB1, hh1⟩ := new_block w #[.int .i64 x, .int .u8 3, .slice (some ⟨bi, off, none⟩) 2 c0] 70
  obtain ⟨W2, hW2, -, -, hz2, hB2, hh2⟩ := new_block W1 #[.int .i64 0, .int .u8 0, .slice none 0 0] 70
  rw [hz1] at hh2 hz2
  have hr1 := row_below hh1 hB2
  have hBB := below_then hB1 hB1.size hB2
  have hp0 : W2.cell? ⟨w.heap.size, 0, none⟩ = some (.int .i64 x) := cell_row hr1 rfl
  have hp1 : W2.cell? ⟨w.heap.size, 1, none⟩ = some (.int .u8 3) := cell_row hr1 rfl
  have hp2 : W2.cell? ⟨w.heap.size, 2, none⟩ = some (.slice (some ⟨bi, off, none⟩) 2 c0) := cell_row hr1 rfl
  have HZ := hid hz1
  have HZ2 := hid (row_lt hh2)
  have hy0 := keeps_below hBB _ _ hx0
  have hy1 := keeps_below hBB _ _ hx1
  have HH := hid h
  clear hx0 hx1 h hB1 hB2 hh1 hz2
  go_enter Try.func88, Try.ntmps88
  go_wp2_with fail
  go_quiet (fail)
  obtain ⟨W3, hW3⟩ : ∃ W3, W2.drewN nq = W3 := ⟨_, rfl⟩
  have hB3 : Below W2.heap.size W2 W3 := by rw [← hW3]; exact below_drewN (Below.refl _ _) _
  rw [hW3]
  have hr13 := row_below hr1 hB3
  have hr23 := row_below hh2 hB3
  have hB03 := below_then hBB hBB.size hB3
  clear hW3 hB3 hp0 hp1 hp2 hr1 hh2 hy0 hy1 hBB hW1 hW2
  have CE : ∀ p, Calls Try.prog 99 #[.int .i64 a, .int .i64 b] (since W3 p) fun e w' => e = .returned (.int .i64 (exclP 65537 a b)) ∧ Below (since W3 p).heap.size (since W3 p) w' :=
    fun p => (exclusive_any a b _ ⟨ha1, ha2⟩ ⟨hb1, hb2⟩).mono fun e w' ⟨he, hw⟩ => ⟨he, by rw [hw]; exact Below.refl _ _⟩
  go_wp2_with fail
  have hq0 : ∀ p, (since W3 p).cell? ⟨w.heap.size, 0, none⟩ = some (.int .i64 x) := fun p => cell_since (cell_row hr13 rfl) p
  have hq1 : ∀ p, (since W3 p).cell? ⟨w.heap.size, 1, none⟩ = some (.int .u8 3) := fun p => cell_since (cell_row hr13 rfl) p
  have hq2 : ∀ p, (since W3 p).cell? ⟨w.heap.size, 2, none⟩ = some (.slice (some ⟨bi, off, none⟩) 2 c0) := fun p => cell_since (cell_row hr13 rfl) p
  refine region_tail 5 (by kernel_rfl) (by kernel_rfl) ?_
  simp only [List.take_succ_cons, List.take_zero, List.drop_succ_cons, List.drop_zero]
  repeat (first | go_big_quiet_step (((go_at_call 99; exact calls_since (CE _)))) | quiet_step (((go_at_call 99; exact calls_since (CE _)))))
  refine wpQuiet_nil ?_
  rintro W ⟨pw, hW⟩
  have hBW : Below W3.heap.size W3 W := by rw [hW]; exact since_below W3 pw
  have hrW := row_below hr23 hBW
  have hw0 : W.cell? ⟨w.heap.size + 1, 0, none⟩ = some (.int .i64 0) := cell_row hrW rfl
  have hw1 : W.cell? ⟨w.heap.size + 1, 1, none⟩ = some (.int .u8 0) := cell_row hrW rfl
  have hw2 : W.cell? ⟨w.heap.size + 1, 2, none⟩ = some (.slice none 0 0) := cell_row hrW rfl
  have hwf : ∀ j, W.frozen? ⟨w.heap.size + 1, j, none⟩ = false := fun j => frozen_of_row _ _ _ _ _ hrW
  have hBE := below_then hB03 hB03.size hBW
  clear hW hq0 hq1 hq2 hr13 hr23
  go_wp2_with fail
  refine bodyPost_ret (v := .tuple #[.int .i64 (exclP 65537 a b), .agg #[.int .i64 x, .int .u8 3, .slice (some ⟨bi, off, none⟩) 2 c0]]) (by simp [results, Try.results88, go_sem, hw0, hw1, hw2]) rfl ?_
  exact simpl_old HH.out hBE

set_option maxHeartbeats 4000000 in
set_option maxRecDepth 100000 in
theorem simplified_xor5 (x a b : Int) (v0 : Value) (w : World) (h : IntsAt w v0 [a, b]) (ha : -65537 ≤ a ∧ a ≤ 65537) (hb : -65537 ≤ b ∧ b ≤ 65537)
    (g0 : (a == -65537) = false)
    (g1 : (a == 65537) = false)
    (g2 : (b == -65537) = false)
    (g3 : (b == 65537) = false)
    (g4 : (a == b) = true) :
    Calls Try.prog 88 #[.agg #[.int .i64 x, .int .u8 3, v0]] w (SimplPost w x v0 (exclP 65537 a b) 3 [a, b]) := by
  obtain ⟨A, c0, e0, hlc, hcm⟩ := SlAt.form h
  replace e0 : v0 = .slice A 2 c0 := e0
  replace hlc : 2 ≤ c0 := hlc
  subst e0
  obtain ⟨bi, off, rfl, hx0, -⟩ := h.at_ 0 a rfl
  obtain ⟨_, _, e, hx1, -⟩ := h.at_ 1 b rfl
  cases e
  rw [Nat.add_zero] at hx0
  obtain ⟨ha1, ha2⟩ := ha
  obtain ⟨hb1, hb2⟩ := hb
  obtain ⟨W1, hW1, -, -, hz1, hB1, hh1⟩ := new_block w #[.int .i64 x, .int .u8 3, .slice (some ⟨bi, off, none⟩) 2 c0] 70
  obtain ⟨W2, hW2, -, -, hz2, hB2, hh2⟩ := new_block W1 #[.int .i64 0, .int .u8 0, .slice none 0 0] 70
  rw [hz1] at hh2 hz2
  have hr1 := row_below hh1 hB2
  have hBB := below_then hB1 hB1.size hB2
  have hp0 : W2.cell? ⟨w.heap.size, 0, none⟩ = some (.int .i64 x) := cell_row hr1 rfl
  have hp1 : W2.cell? ⟨w.heap.size, 1, none⟩ = some (.int .u8 3) := cell_row hr1 rfl
  have hp2 : W2.cell? ⟨w.heap.size, 2, none⟩ = some (.slice (some ⟨bi, off, none⟩) 2 c0) := cell_row hr1 rfl
  have HZ := hid hz1
  have HZ2 := hid (row_lt hh2)
  have hy0 := keeps_below hBB _ _ hx0
  have hy1 := keeps_below hBB _ _ hx1
  have HH := hid h
  clear hx0 hx1 h hB1 hB2 hh1 hz2
  go_enter Try.func88, Try.ntmps88
  go_wp2_with fail
  go_quiet (fail)
  obtain ⟨W3, hW3⟩ : ∃ W3, W2.drewN nq = W3 := ⟨_, rfl⟩
  have hB3 : Below W2.heap.size W2 W3 := by rw [← hW3]; exact below_drewN (Below.refl _ _) _
  rw [hW3]
  have hr13 := row_below hr1 hB3
  have hr23 := row_below hh2 hB3
  have hB03 := below_then hBB hBB.size hB3
  clear hW3 hB3 hp0 hp1 hp2 hr1 hh2 hy0 hy1 hBB hW1 hW2
  have CE : ∀ p, Calls Try.prog 99 #[.int .i64 a, .int .i64 b] (since W3 p) fun e w' => e = .returned (.int .i64 (exclP 65537 a b)) ∧ Below (since W3 p).heap.size (since W3 p) w' :=
    fun p => (exclusive_any a b _ ⟨ha1, ha2⟩ ⟨hb1, hb2⟩).mono fun e w' ⟨he, hw⟩ => ⟨he, by rw [hw]; exact Below.refl _ _⟩
  go_wp2_with fail
  have hq0 : ∀ p, (since W3 p).cell? ⟨w.heap.size, 0, none⟩ = some (.int .i64 x) := fun p => cell_since (cell_row hr13 rfl) p
  have hq1 : ∀ p, (since W3 p).cell? ⟨w.heap.size, 1, none⟩ = some (.int .u8 3) := fun p => cell_since (cell_row hr13 rfl) p
  have hq2 : ∀ p, (since W3 p).cell? ⟨w.heap.size, 2, none⟩ = some (.slice (some ⟨bi, off, none⟩) 2 c0) := fun p => cell_since (cell_row hr13 rfl) p
  refine region_tail 5 (by kernel_rfl) (by kernel_rfl) ?_
  simp only [List.take_succ_cons, List.take_zero, List.drop_succ_cons, List.drop_zero]
  repeat (first | go_big_quiet_step (((go_at_call 99; exact calls_since (CE _)))) | quiet_step (((go_at_call 99; exact calls_since (CE _)))))
  refine wpQuiet_nil ?_
  rintro W ⟨pw, hW⟩
  have hBW : Below W3.heap.size W3 W := by rw [hW]; exact since_below W3 pw
  have hrW := row_below hr23 hBW
  have hw0 : W.cell? ⟨w.heap.size + 1, 0, none⟩ = some (.int .i64 0) := cell_row hrW rfl
  have hw1 : W.cell? ⟨w.heap.size + 1, 1, none⟩ = some (.int .u8 0) := cell_row hrW rfl
  have hw2 : W.cell? ⟨w.heap.size + 1, 2, none⟩ = some (.slice none 0 0) := cell_row hrW rfl
  have hwf : ∀ j, W.frozen? ⟨w.heap.size + 1, j, none⟩ = false := fun j => frozen_of_row _ _ _ _ _ hrW
  have hBE := below_then hB03 hB03.size hBW
  clear hW hq0 hq1 hq2 hr13 hr23
  go_wp2_with fail
  refine bodyPost_ret (v := .tuple #[.int .i64 (exclP 65537 a b), .agg #[.int .i64 x, .int .u8 3, .slice (some ⟨bi, off, none⟩) 2 c0]]) (by simp [results, Try.results88, go_sem, hw0, hw1, hw2]) rfl ?_
  exact simpl_old HH.out hBE

set_option maxHeartbeats 4000000 in
set_option maxRecDepth 100000 in
theorem simplified_xor6 (x a b : Int) (v0 : Value) (w : World) (h : IntsAt w v0 [a, b]) (ha : -65537 ≤ a ∧ a ≤ 65537) (hb : -65537 ≤ b ∧ b ≤ 65537)
    (g0 : (a == -65537) = false)
    (g1 : (a == 65537) = false)
    (g2 : (b == -65537) = false)
    (g3 : (b == 65537) = false)
    (g4 : (a == b) = false)
    (g5 : (a == -b) = true) :
    Calls Try.prog 88 #[.agg #[.int .i64 x, .int .u8 3, v0]] w (SimplPost w x v0 (exclP 65537 a b) 3 [a, b]) := by
  obtain ⟨A, c0, e0, hlc, hcm⟩ := SlAt.form h
  replace e0 : v0 = .slice A 2 c0 := e0
  replace hlc : 2 ≤ c0 := hlc
  subst e0
  obtain ⟨bi, off, rfl, hx0, -⟩ := h.at_ 0 a rfl
  obtain ⟨_, _, e, hx1, -⟩ := h.at_ 1 b rfl
  cases e
  rw [Nat.add_zero] at hx0
  obtain ⟨ha1, ha2⟩ := ha
  obtain ⟨hb1, hb2⟩ := hb
  obtain ⟨W1, hW1, -, -, hz1, hB1, hh1⟩ := new_block w #[.int .i64 x, .int .u8 3, .slice (some ⟨bi, off, none⟩) 2 c0] 70
  obtain ⟨W2, hW2, -, -, hz2, hB2, hh2⟩ := new_block W1 #[.int .i64 0, .int .u8 0, .slice none 0 0] 70
  rw [hz1] at hh2 hz2
  have hr1 := row_below hh1 hB2
  have hBB := below_then hB1 hB1.size hB2
  have hp0 : W2.cell? ⟨w.heap.size, 0, none⟩ = some (.int .i64 x) := cell_row hr1 rfl
  have hp1 : W2.cell? ⟨w.heap.size, 1, none⟩ = some (.int .u8 3) := cell_row hr1 rfl
  have hp2 : W2.cell? ⟨w.heap.size, 2, none⟩ = some (.slice (some ⟨bi, off, none⟩) 2 c0) := cell_row hr1 rfl
  have HZ := hid hz1
  have HZ2 := hid (row_lt hh2)
  have hy0 := keeps_below hBB _ _ hx0
  have hy1 := keeps_below hBB _ _ hx1
  have HH := hid h
  clear hx0 hx1 h hB1 hB2 hh1 hz2
  go_enter Try.func88, Try.ntmps88
  go_wp2_with fail
  go_quiet (fail)
  obtain ⟨W3, hW3⟩ : ∃ W3, W2.drewN nq = W3 := ⟨_, rfl⟩
  have hB3 : Below W2.heap.size W2 W3 := by rw [← hW3]; exact below_drewN (Below.refl _ _) _
  rw [hW3]
  have hr13 := row_below hr1 hB3
  have hr23 := row_below hh2 hB3
  have hB03 := below_then hBB hBB.size hB3
  clear hW3 hB3 hp0 hp1 hp2 hr1 hh2 hy0 hy1 hBB hW1 hW2
  have CE : ∀ p, Calls Try.prog 99 #[.int .i64 a, .int .i64 b] (since W3 p) fun e w' => e = .returned (.int .i64 (exclP 65537 a b)) ∧ Below (since W3 p).heap.size (since W3 p) w' :=
    fun p => (exclusive_any a b _ ⟨ha1, ha2⟩ ⟨hb1, hb2⟩).mono fun e w' ⟨he, hw⟩ => ⟨he, by rw [hw]; exact Below.refl _ _⟩
  go_wp2_with fail
  have hq0 : ∀ p, (since W3 p).cell? ⟨w.heap.size, 0, none⟩ = some (.int .i64 x) := fun p => cell_since (cell_row hr13 rfl) p
  have hq1 : ∀ p, (since W3 p).cell? ⟨w.heap.size, 1, none⟩ = some (.int .u8 3) := fun p => cell_since (cell_row hr13 rfl) p
  have hq2 : ∀ p, (since W3 p).cell? ⟨w.heap.size, 2, none⟩ = some (.slice (some ⟨bi, off, none⟩) 2 c0) := fun p => cell_since (cell_row hr13 rfl) p
  refine region_tail 5 (by kernel_rfl) (by kernel_rfl) ?_
  simp only [List.take_succ_cons, List.take_zero, List.drop_succ_cons, List.drop_zero]
  repeat (first | go_big_quiet_step (((go_at_call 99; exact calls_since (CE _)))) | quiet_step (((go_at_call 99; exact calls_since (CE _)))))
  refine wpQuiet_nil ?_
  rintro W ⟨pw, hW⟩
  have hBW : Below W3.heap.size W3 W := by rw [hW]; exact since_below W3 pw
  have hrW := row_below hr23 hBW
  have hw0 : W.cell? ⟨w.heap.size + 1, 0, none⟩ = some (.int .i64 0) := cell_row hrW rfl
  have hw1 : W.cell? ⟨w.heap.size + 1, 1, none⟩ = some (.int .u8 0) := cell_row hrW rfl
  have hw2 : W.cell? ⟨w.heap.size + 1, 2, none⟩ = some (.slice none 0 0) := cell_row hrW rfl
  have hwf : ∀ j, W.frozen? ⟨w.heap.size + 1, j, none⟩ = false := fun j => frozen_of_row _ _ _ _ _ hrW
  have hBE := below_then hB03 hB03.size hBW
  clear hW hq0 hq1 hq2 hr13 hr23
  go_wp2_with fail
  refine bodyPost_ret (v := .tuple #[.int .i64 (exclP 65537 a b), .agg #[.int .i64 x, .int .u8 3, .slice (some ⟨bi, off, none⟩) 2 c0]]) (by simp [results, Try.results88, go_sem, hw0, hw1, hw2]) rfl ?_
  exact simpl_old HH.out hBE

set_option maxHeartbeats 4000000 in
set_option maxRecDepth 100000 in
theorem simplified_ite1 (x c a b : Int) (v0 : Value) (w : World) (h : IntsAt w v0 [c, a, b]) (hc : -65537 ≤ c ∧ c ≤ 65537) (ha : -65537 ≤ a ∧ a ≤ 65537) (hb : -65537 ≤ b ∧ b ≤ 65537)
    (g0 : (c == 65537) = true) :
    Calls Try.prog 88 #[.agg #[.int .i64 x, .int .u8 4, v0]] w (SimplPost w x v0 (a) 4 [c, a, b]) := by
  obtain ⟨A, c0, e0, hlc, hcm⟩ := SlAt.form h
  replace e0 : v0 = .slice A 3 c0 := e0
  replace hlc : 3 ≤ c0 := hlc
  subst e0
  obtain ⟨bi, off, rfl, hx0, -⟩ := h.at_ 0 c rfl
  obtain ⟨_, _, e, hx1, -⟩ := h.at_ 1 a rfl
  cases e
  obtain ⟨_, _, e, hx2, -⟩ := h.at_ 2 b rfl
  cases e
  rw [Nat.add_zero] at hx0
  obtain ⟨hc1, hc2⟩ := hc
  obtain ⟨ha1, ha2⟩ := ha
  obtain ⟨hb1, hb2⟩ := hb
  obtain ⟨W1, hW1, -, -, hz1, hB1, hh1⟩ := new_block w #[.int .i64 x, .int .u8 4, .slice (some ⟨bi, off, none⟩) 3 c0] 70
  obtain ⟨W2, hW2, -, -, hz2, hB2, hh2⟩ := new_block W1 #[.int .i64 0, .int .u8 0, .slice none 0 0] 70
  rw [hz1] at hh2 hz2
  have hr1 := row_below hh1 hB2
  have hBB := below_then hB1 hB1.size hB2
  have hp0 : W2.cell? ⟨w.heap.size, 0, none⟩ = some (.int .i64 x) := cell_row hr1 rfl
  have hp1 : W2.cell? ⟨w.heap.size, 1, none⟩ = some (.int .u8 4) := cell_row hr1 rfl
  have hp2 : W2.cell? ⟨w.heap.size, 2, none⟩ = some (.slice (some ⟨bi, off, none⟩) 3 c0) := cell_row hr1 rfl
  have HZ := hid hz1
  have HZ2 := hid (row_lt hh2)
  have hy0 := keeps_below hBB _ _ hx0
  have hy1 := keeps_below hBB _ _ hx1
  have hy2 := keeps_below hBB _ _ hx2
  have HH := hid h
  clear hx0 hx1 hx2 h hB1 hB2 hh1 hz2
  go_enter Try.func88, Try.ntmps88
  go_wp2_with fail
  go_quiet (fail)
  obtain ⟨W3, hW3⟩ : ∃ W3, W2.drewN nq = W3 := ⟨_, rfl⟩
  have hB3 : Below W2.heap.size W2 W3 := by rw [← hW3]; exact below_drewN (Below.refl _ _) _
  rw [hW3]
  have hr13 := row_below hr1 hB3
  have hr23 := row_below hh2 hB3
  have hB03 := below_then hBB hBB.size hB3
  clear hW3 hB3 hp0 hp1 hp2 hr1 hh2 hy0 hy1 hy2 hBB hW1 hW2
  go_wp2_with fail
  have hq0 : ∀ p, (since W3 p).cell? ⟨w.heap.size, 0, none⟩ = some (.int .i64 x) := fun p => cell_since (cell_row hr13 rfl) p
  have hq1 : ∀ p, (since W3 p).cell? ⟨w.heap.size, 1, none⟩ = some (.int .u8 4) := fun p => cell_since (cell_row hr13 rfl) p
  have hq2 : ∀ p, (since W3 p).cell? ⟨w.heap.size, 2, none⟩ = some (.slice (some ⟨bi, off, none⟩) 3 c0) := fun p => cell_since (cell_row hr13 rfl) p
  refine region_tail 3 (by kernel_rfl) (by kernel_rfl) ?_
  simp only [List.take_succ_cons, List.take_zero, List.drop_succ_cons, List.drop_zero]
  repeat (first | go_big_quiet_step ((fail)) | quiet_step ((fail)))
  refine wpQuiet_nil ?_
  rintro W ⟨pw, hW⟩
  have hBW : Below W3.heap.size W3 W := by rw [hW]; exact since_below W3 pw
  have hrW := row_below hr23 hBW
  have hw0 : W.cell? ⟨w.heap.size + 1, 0, none⟩ = some (.int .i64 0) := cell_row hrW rfl
  have hw1 : W.cell? ⟨w.heap.size + 1, 1, none⟩ = some (.int .u8 0) := cell_row hrW rfl
  have hw2 : W.cell? ⟨w.heap.size + 1, 2, none⟩ = some (.slice none 0 0) := cell_row hrW rfl
  have hwf : ∀ j, W.frozen? ⟨w.heap.size + 1, j, none⟩ = false := fun j => frozen_of_row _ _ _ _ _ hrW
  have hBE := below_then hB03 hB03.size hBW
  clear hW hq0 hq1 hq2 hr13 hr23
  go_wp2_with fail
  refine bodyPost_ret (v := .tuple #[.int .i64 (a), .agg #[.int .i64 x, .int .u8 4, .slice (some ⟨bi, off, none⟩) 3 c0]]) (by simp [results, Try.results88, go_sem, hw0, hw1, hw2]) rfl ?_
  exact simpl_old HH.out hBE

set_option maxHeartbeats 4000000 in
set_option maxRecDepth 100000 in
theorem simplified_ite2 (x c a b : Int) (v0 : Value) (w : World) (h : IntsAt w v0 [c, a, b]) (hc : -65537 ≤ c ∧ c ≤ 65537) (ha : -65537 ≤ a ∧ a ≤ 65537) (hb : -65537 ≤ b ∧ b ≤ 65537)
    (g0 : (c == 65537) = false)
    (g1 : (c != -65537) = true)
    (g2 : (a == b) = true) :
    Calls Try.prog 88 #[.agg #[.int .i64 x, .int .u8 4, v0]] w (SimplPost w x v0 (a) 4 [c, a, b]) := by
  obtain ⟨A, c0, e0, hlc, hcm⟩ := SlAt.form h
  replace e0 : v0 = .slice A 3 c0 := e0
  replace hlc : 3 ≤ c0 := hlc
  subst e0
  obtain ⟨bi, off, rfl, hx0, -⟩ := h.at_ 0 c rfl
  obtain ⟨_, _, e, hx1, -⟩ := h.at_ 1 a rfl
  cases e
  obtain ⟨_, _, e, hx2, -⟩ := h.at_ 2 b rfl
  cases e
  rw [Nat.add_zero] at hx0
  obtain ⟨hc1, hc2⟩ := hc
  obtain ⟨ha1, ha2⟩ := ha
  obtain ⟨hb1, hb2⟩ := hb
  obtain ⟨W1, hW1, -, -, hz1, hB1, hh1⟩ := new_block w #[.int .i64 x, .int .u8 4, .slice (some ⟨bi, off, none⟩) 3 c0] 70
  obtain ⟨W2, hW2, -, -, hz2, hB2, hh2⟩ := new_block W1 #[.int .i64 0, .int .u8 0, .slice none 0 0] 70
  rw [hz1] at hh2 hz2
  have hr1 := row_below hh1 hB2
  have hBB := below_then hB1 hB1.size hB2
  have hp0 : W2.cell? ⟨w.heap.size, 0, none⟩ = some (.int .i64 x) := cell_row hr1 rfl
  have hp1 : W2.cell? ⟨w.heap.size, 1, none⟩ = some (.int .u8 4) := cell_row hr1 rfl
  have hp2 : W2.cell? ⟨w.heap.size, 2, none⟩ = some (.slice (some ⟨bi, off, none⟩) 3 c0) := cell_row hr1 rfl
  have HZ := hid hz1
  have HZ2 := hid (row_lt hh2)
  have hy0 := keeps_below hBB _ _ hx0
  have hy1 := keeps_below hBB _ _ hx1
  have hy2 := keeps_below hBB _ _ hx2
  have HH := hid h
  clear hx0 hx1 hx2 h hB1 hB2 hh1 hz2
  go_enter Try.func88, Try.ntmps88
  go_wp2_with fail
  go_quiet (fail)
  obtain ⟨W3, hW3⟩ : ∃ W3, W2.drewN nq = W3 := ⟨_, rfl⟩
  have hB3 : Below W2.heap.size W2 W3 := by rw [← hW3]; exact below_drewN (Below.refl _ _) _
  rw [hW3]
  have hr13 := row_below hr1 hB3
  have hr23 := row_below hh2 hB3
  have hB03 := below_then hBB hBB.size hB3
  clear hW3 hB3 hp0 hp1 hp2 hr1 hh2 hy0 hy1 hy2 hBB hW1 hW2
  go_wp2_with fail
  have hq0 : ∀ p, (since W3 p).cell? ⟨w.heap.size, 0, none⟩ = some (.int .i64 x) := fun p => cell_since (cell_row hr13 rfl) p
  have hq1 : ∀ p, (since W3 p).cell? ⟨w.heap.size, 1, none⟩ = some (.int .u8 4) := fun p => cell_since (cell_row hr13 rfl) p
  have hq2 : ∀ p, (since W3 p).cell? ⟨w.heap.size, 2, none⟩ = some (.slice (some ⟨bi, off, none⟩) 3 c0) := fun p => cell_since (cell_row hr13 rfl) p
  refine region_tail 3 (by kernel_rfl) (by kernel_rfl) ?_
  simp only [List.take_succ_cons, List.take_zero, List.drop_succ_cons, List.drop_zero]
  repeat (first | go_big_quiet_step ((fail)) | quiet_step ((fail)))
  refine wpQuiet_nil ?_
  rintro W ⟨pw, hW⟩
  have hBW : Below W3.heap.size W3 W := by rw [hW]; exact since_below W3 pw
  have hrW := row_below hr23 hBW
  have hw0 : W.cell? ⟨w.heap.size + 1, 0, none⟩ = some (.int .i64 0) := cell_row hrW rfl
  have hw1 : W.cell? ⟨w.heap.size + 1, 1, none⟩ = some (.int .u8 0) := cell_row hrW rfl
  have hw2 : W.cell? ⟨w.heap.size + 1, 2, none⟩ = some (.slice none 0 0) := cell_row hrW rfl
  have hwf : ∀ j, W.frozen? ⟨w.heap.size + 1, j, none⟩ = false := fun j => frozen_of_row _ _ _ _ _ hrW
  have hBE := below_then hB03 hB03.size hBW
  clear hW hq0 hq1 hq2 hr13 hr23
  go_wp2_with fail
  refine bodyPost_ret (v := .tuple #[.int .i64 (a), .agg #[.int .i64 x, .int .u8 4, .slice (some ⟨bi, off, none⟩) 3 c0]]) (by simp [results, Try.results88, go_sem, hw0, hw1, hw2]) rfl ?_
  exact simpl_old HH.out hBE

set_option maxHeartbeats 4000000 in
set_option maxRecDepth 100000 in
theorem simplified_ite3 (x c a b : Int) (v0 : Value) (w : World) (h : IntsAt w v0 [c, a, b]) (hc : -65537 ≤ c ∧ c ≤ 65537) (ha : -65537 ≤ a ∧ a ≤ 65537) (hb : -65537 ≤ b ∧ b ≤ 65537)
    (g0 : (c == 65537) = false)
    (g1 : (c != -65537) = false)
    (g2 : (c == -65537) = true) :
    Calls Try.prog 88 #[.agg #[.int .i64 x, .int .u8 4, v0]] w (SimplPost w x v0 (b) 4 [c, a, b]) := by
  obtain ⟨A, c0, e0, hlc, hcm⟩ := SlAt.form h
  replace e0 : v0 = .slice A 3 c0 := e0
  replace hlc : 3 ≤ c0 := hlc
  subst e0
  obtain ⟨bi, off, rfl, hx0, -⟩ := h.at_ 0 c rfl
  obtain ⟨_, _, e, hx1, -⟩ := h.at_ 1 a rfl
  cases e
  obtain ⟨_, _, e, hx2, -⟩ := h.at_ 2 b rfl
  cases e
  rw [Nat.add_zero] at hx0
  obtain ⟨hc1, hc2⟩ := hc
  obtain ⟨ha1, ha2⟩ := ha
  obtain ⟨hb1, hb2⟩ := hb
  obtain ⟨W1, hW1, -, -, hz1, hB1, hh1⟩ := new_block w #[.int .i64 x, .int .u8 4, .slice (some ⟨bi, off, none⟩) 3 c0] 70
  obtain ⟨W2, hW2, -, -, hz2, hB2, hh2⟩ := new_block W1 #[.int .i64 0, .int .u8 0, .slice none 0 0] 70
  rw [hz1] at hh2 hz2
  have hr1 := row_below hh1 hB2
  have hBB := below_then hB1 hB1.size hB2
  have hp0 : W2.cell? ⟨w.heap.size, 0, none⟩ = some (.int .i64 x) := cell_row hr1 rfl
  have hp1 : W2.cell? ⟨w.heap.size, 1, none⟩ = some (.int .u8 4) := cell_row hr1 rfl
  have hp2 : W2.cell? ⟨w.heap.size, 2, none⟩ = some (.slice (some ⟨bi, off, none⟩) 3 c0) := cell_row hr1 rfl
  have HZ := hid hz1
  have HZ2 := hid (row_lt hh2)
  have hy0 := keeps_below hBB _ _ hx0
  have hy1 := keeps_below hBB _ _ hx1
  have hy2 := keeps_below hBB _ _ hx2
  have HH := hid h
  clear hx0 hx1 hx2 h hB1 hB2 hh1 hz2
  go_enter Try.func88, Try.ntmps88
  go_wp2_with fail
  go_quiet (fail)
  obtain ⟨W3, hW3⟩ : ∃ W3, W2.drewN nq = W3 := ⟨_, rfl⟩
  have hB3 : Below W2.heap.size W2 W3 := by rw [← hW3]; exact below_drewN (Below.refl _ _) _
  rw [hW3]
  have hr13 := row_below hr1 hB3
  have hr23 := row_below hh2 hB3
  have hB03 := below_then hBB hBB.size hB3
  clear hW3 hB3 hp0 hp1 hp2 hr1 hh2 hy0 hy1 hy2 hBB hW1 hW2
  go_wp2_with fail
  have hq0 : ∀ p, (since W3 p).cell? ⟨w.heap.size, 0, none⟩ = some (.int .i64 x) := fun p => cell_since (cell_row hr13 rfl) p
  have hq1 : ∀ p, (since W3 p).cell? ⟨w.heap.size, 1, none⟩ = some (.int .u8 4) := fun p => cell_since (cell_row hr13 rfl) p
  have hq2 : ∀ p, (since W3 p).cell? ⟨w.heap.size, 2, none⟩ = some (.slice (some ⟨bi, off, none⟩) 3 c0) := fun p => cell_since (cell_row hr13 rfl) p
  refine region_tail 3 (by kernel_rfl) (by kernel_rfl) ?_
  simp only [List.take_succ_cons, List.take_zero, List.drop_succ_cons, List.drop_zero]
  repeat (first | go_big_quiet_step ((fail)) | quiet_step ((fail)))
  refine wpQuiet_nil ?_
  rintro W ⟨pw, hW⟩
  have hBW : Below W3.heap.size W3 W := by rw [hW]; exact since_below W3 pw
  have hrW := row_below hr23 hBW
  have hw0 : W.cell? ⟨w.heap.size + 1, 0, none⟩ = some (.int .i64 0) := cell_row hrW rfl
  have hw1 : W.cell? ⟨w.heap.size + 1, 1, none⟩ = some (.int .u8 0) := cell_row hrW rfl
  have hw2 : W.cell? ⟨w.heap.size + 1, 2, none⟩ = some (.slice none 0 0) := cell_row hrW rfl
  have hwf : ∀ j, W.frozen? ⟨w.heap.size + 1, j, none⟩ = false := fun j => frozen_of_row _ _ _ _ _ hrW
  have hBE := below_then hB03 hB03.size hBW
  clear hW hq0 hq1 hq2 hr13 hr23
  go_wp2_with fail
  refine bodyPost_ret (v := .tuple #[.int .i64 (b), .agg #[.int .i64 x, .int .u8 4, .slice (some ⟨bi, off, none⟩) 3 c0]]) (by simp [results, Try.results88, go_sem, hw0, hw1, hw2]) rfl ?_
  exact simpl_old HH.out hBE

set_option maxHeartbeats 4000000 in
set_option maxRecDepth 100000 in
theorem simplified_ite4 (x c a b : Int) (v0 : Value) (w : World) (h : IntsAt w v0 [c, a, b]) (hc : -65537 ≤ c ∧ c ≤ 65537) (ha : -65537 ≤ a ∧ a ≤ 65537) (hb : -65537 ≤ b ∧ b ≤ 65537)
    (g0 : (c == 65537) = false)
    (g1 : (c != -65537) = true)
    (g2 : (a == b) = false)
    (g3 : (c == -65537) = false)
    (g4 : (a == 65537) = true) :
    Calls Try.prog 88 #[.agg #[.int .i64 x, .int .u8 4, v0]] w (SimplPost w x v0 (gatherP (-65537) [c, b]).1 2 (gatherP (-65537) [c, b]).2) := by
  obtain ⟨A, c0, e0, hlc, hcm⟩ := SlAt.form h
  replace e0 : v0 = .slice A 3 c0 := e0
  replace hlc : 3 ≤ c0 := hlc
  subst e0
  obtain ⟨bi, off, rfl, hx0, -⟩ := h.at_ 0 c rfl
  obtain ⟨_, _, e, hx1, -⟩ := h.at_ 1 a rfl
  cases e
  obtain ⟨_, _, e, hx2, -⟩ := h.at_ 2 b rfl
  cases e
  rw [Nat.add_zero] at hx0
  obtain ⟨hc1, hc2⟩ := hc
  obtain ⟨ha1, ha2⟩ := ha
  obtain ⟨hb1, hb2⟩ := hb
  obtain ⟨W1, hW1, -, -, hz1, hB1, hh1⟩ := new_block w #[.int .i64 x, .int .u8 4, .slice (some ⟨bi, off, none⟩) 3 c0] 70
  obtain ⟨W2, hW2, -, -, hz2, hB2, hh2⟩ := new_block W1 #[.int .i64 0, .int .u8 0, .slice none 0 0] 70
  rw [hz1] at hh2 hz2
  have hr1 := row_below hh1 hB2
  have hBB := below_then hB1 hB1.size hB2
  have hp0 : W2.cell? ⟨w.heap.size, 0, none⟩ = some (.int .i64 x) := cell_row hr1 rfl
  have hp1 : W2.cell? ⟨w.heap.size, 1, none⟩ = some (.int .u8 4) := cell_row hr1 rfl
  have hp2 : W2.cell? ⟨w.heap.size, 2, none⟩ = some (.slice (some ⟨bi, off, none⟩) 3 c0) := cell_row hr1 rfl
  have HZ := hid hz1
  have HZ2 := hid (row_lt hh2)
  have hy0 := keeps_below hBB _ _ hx0
  have hy1 := keeps_below hBB _ _ hx1
  have hy2 := keeps_below hBB _ _ hx2
  have HH := hid h
  clear hx0 hx1 hx2 h hB1 hB2 hh1 hz2
  go_enter Try.func88, Try.ntmps88
  go_wp2_with fail
  go_quiet (fail)
  obtain ⟨W3, hW3⟩ : ∃ W3, W2.drewN nq = W3 := ⟨_, rfl⟩
  have hB3 : Below W2.heap.size W2 W3 := by rw [← hW3]; exact below_drewN (Below.refl _ _) _
  rw [hW3]
  have hr13 := row_below hr1 hB3
  have hr23 := row_below hh2 hB3
  have hB03 := below_then hBB hBB.size hB3
  obtain ⟨W4, hW4, -, -, hz4, hB4, hh4⟩ := new_block W3 #[.int .i64 (c), .int .i64 (b)] 3
  obtain ⟨W5, hW5⟩ : ∃ W5, W4.setCell ⟨w.heap.size, 1, none⟩ (.int .u8 2) = W5 := ⟨_, rfl⟩
  have hr14 := row_below hr13 hB4
  have hr24 := row_below hr23 hB4
  have hr15 : W5.heap[w.heap.size]? = some (.cells #[.int .i64 x, .int .u8 2, .slice (some ⟨bi, off, none⟩) 3 c0] 70 (0, 0)) := by
    rw [← hW5]; exact heap_setCell_same _ _ 1 _ _ _ hr14
  have hr25 : W5.heap[w.heap.size + 1]? = some (.cells #[.int .i64 0, .int .u8 0, .slice none 0 0] 70 (0, 0)) := by
    rw [← hW5, heap_setCell_other _ _ _ _ (by simp)]; exact hr24
  have hlt3 : w.heap.size + 1 < W3.heap.size := row_lt hr23
  have hh5 : W5.heap[W3.heap.size]? = some (.cells #[.int .i64 (c), .int .i64 (b)] 3 (0, 0)) := by
    rw [← hW5, heap_setCell_other _ _ _ _ (by simp; omega)]; exact hh4
  have hB05 : Below w.heap.size w W5 := by
    rw [← hW5]; exact (below_then hB03 hB03.size hB4).setCell (p := ⟨w.heap.size, 1, none⟩) (Nat.le_refl _) _
  have hi5 : IntsAt W5 (.slice (some ⟨W3.heap.size, 0, none⟩) 2 2) [c, b] := by
    refine ⟨some ⟨W3.heap.size, 0, none⟩, 2, rfl, Nat.le_refl _, by omega, fun _ => ⟨W3.heap.size, 0, rfl, fun j y hj => ?_⟩⟩
    rw [Nat.zero_add, Nat.mul_one]
    match j, hj with
    | 0, hj => injection hj with hj; subst hj; exact ⟨cell_row hh5 rfl, by unfold I64; omega⟩
    | 1, hj => injection hj with hj; subst hj; exact ⟨cell_row hh5 rfl, by unfold I64; omega⟩
  have C := gather_any (.slice (some ⟨W3.heap.size, 0, none⟩) 2 2) [c, b] (-65537) W5 hi5 (by simp) (by intro y hy; simp at hy; omega) (by simp)
  have hsz5 : w.heap.size + 2 ≤ W5.heap.size := by have := row_lt hr25; omega
  have hf4 : W4.frozen? ⟨w.heap.size, 1, none⟩ = false := frozen_of_row _ _ _ _ _ hr14
  have hc41 : W4.cell? ⟨w.heap.size, 1, none⟩ = some (.int .u8 4) := cell_row hr14 rfl
  have hc51 : W5.cell? ⟨w.heap.size, 1, none⟩ = some (.int .u8 2) := cell_row hr15 rfl
  clear hW3 hB3 hp0 hp1 hp2 hr1 hh2 hy0 hy1 hy2 hBB hW1 hW2 hB03 hr13 hr23 hr14 hr24 hh4 hh5 hi5 hB4
  have HZ4 := hid hz4
  clear hz4
  go_wp2_with fail
  refine C.mono ?_
  rintro e w6 ⟨hB6, vo, rfl, hvo, hfo⟩
  have hr16 := row_below hr15 hB6
  have hr26 := row_below hr25 hB6
  have hB06 := below_then hB05 hB05.size hB6
  have hf6 : w6.frozen? ⟨w.heap.size, 2, none⟩ = false := frozen_of_row _ _ _ _ _ hr16
  have hc62 : w6.cell? ⟨w.heap.size, 2, none⟩ = some (.slice (some ⟨bi, off, none⟩) 3 c0) := cell_row hr16 rfl
  obtain ⟨Ao, co, e0, -, -⟩ := SlAt.form hvo
  obtain ⟨W3, hW3⟩ : ∃ W3, w6.setCell ⟨w.heap.size, 2, none⟩ vo = W3 := ⟨_, rfl⟩
  have hr13 : W3.heap[w.heap.size]? = some (.cells #[.int .i64 x, .int .u8 2, vo] 70 (0, 0)) := by
    rw [← hW3]; exact heap_setCell_same _ _ 2 _ _ _ hr16
  have hr23 : W3.heap[w.heap.size + 1]? = some (.cells #[.int .i64 0, .int .u8 0, .slice none 0 0] 70 (0, 0)) := by
    rw [← hW3, heap_setCell_other _ _ _ _ (by simp)]; exact hr26
  have hB03 : Below w.heap.size w W3 := by
    rw [← hW3]; exact hB06.setCell (p := ⟨w.heap.size, 2, none⟩) (Nat.le_refl _) _
  have hv3 : IntsAt W3 vo (gatherP (-65537) [c, b]).2 := by
    rw [← hW3]; exact hvo.kept (grown_setCell w6 ⟨w.heap.size, 2, none⟩ vo) (fun b hb e => by have := hfo b hb; injection e with e; simp at e; omega)
  have hfv : ∀ b, vo.ownBlock = some b → w.heap.size + 2 ≤ b := fun b hb => Nat.le_trans hsz5 (hfo b hb)
  have HV3 := hid hv3
  have HFV := hid hfv
  subst e0
  clear C hr15 hr25 hr16 hr26 hB05 hB06 hB6 hvo hfo hv3 hfv
  have HW3 := hid hW3
  go_wp2_with fail
  clear hW3 HW3
  have hq0 : ∀ p, (since W3 p).cell? ⟨w.heap.size, 0, none⟩ = some (.int .i64 x) := fun p => cell_since (cell_row hr13 rfl) p
  have hq1 : ∀ p, (since W3 p).cell? ⟨w.heap.size, 1, none⟩ = some (.int .u8 2) := fun p => cell_since (cell_row hr13 rfl) p
  have hq2 : ∀ p, (since W3 p).cell? ⟨w.heap.size, 2, none⟩ = some (.slice Ao (gatherP (-65537) [c, b]).2.length co) := fun p => cell_since (cell_row hr13 rfl) p
  refine region_tail 3 (by kernel_rfl) (by kernel_rfl) ?_
  simp only [List.take_succ_cons, List.take_zero, List.drop_succ_cons, List.drop_zero]
  repeat (first | go_big_quiet_step ((fail)) | quiet_step ((fail)))
  refine wpQuiet_nil ?_
  rintro W ⟨pw, hW⟩
  have hBW : Below W3.heap.size W3 W := by rw [hW]; exact since_below W3 pw
  have hrW := row_below hr23 hBW
  have hw0 : W.cell? ⟨w.heap.size + 1, 0, none⟩ = some (.int .i64 0) := cell_row hrW rfl
  have hw1 : W.cell? ⟨w.heap.size + 1, 1, none⟩ = some (.int .u8 0) := cell_row hrW rfl
  have hw2 : W.cell? ⟨w.heap.size + 1, 2, none⟩ = some (.slice none 0 0) := cell_row hrW rfl
  have hwf : ∀ j, W.frozen? ⟨w.heap.size + 1, j, none⟩ = false := fun j => frozen_of_row _ _ _ _ _ hrW
  have hBE := below_then hB03 hB03.size hBW
  clear hW hq0 hq1 hq2 hr13 hr23
  go_wp2_with fail
  refine bodyPost_ret (v := .tuple #[.int .i64 ((gatherP (-65537) [c, b]).1), .agg #[.int .i64 x, .int .u8 2, .slice Ao (gatherP (-65537) [c, b]).2.length co]]) (by simp [results, Try.results88, go_sem, hw0, hw1, hw2]) rfl ?_
  exact simpl_new HV3.out hBE hBW HFV.out

set_option maxHeartbeats 4000000 in
set_option maxRecDepth 100000 in
theorem simplified_ite5 (x c a b : Int) (v0 : Value) (w : World) (h : IntsAt w v0 [c, a, b]) (hc : -65537 ≤ c ∧ c ≤ 65537) (ha : -65537 ≤ a ∧ a ≤ 65537) (hb : -65537 ≤ b ∧ b ≤ 65537)
    (g0 : (c == 65537) = false)
    (g1 : (c != -65537) = true)
    (g2 : (a == b) = false)
    (g3 : (c == -65537) = false)
    (g4 : (a == 65537) = false)
    (g5 : (a == -65537) = true) :
    Calls Try.prog 88 #[.agg #[.int .i64 x, .int .u8 4, v0]] w (SimplPost w x v0 (gatherP (65537) [-c, b]).1 1 (gatherP (65537) [-c, b]).2) := by
  obtain ⟨A, c0, e0, hlc, hcm⟩ := SlAt.form h
  replace e0 : v0 = .slice A 3 c0 := e0
  replace hlc : 3 ≤ c0 := hlc
  subst e0
  obtain ⟨bi, off, rfl, hx0, -⟩ := h.at_ 0 c rfl
  obtain ⟨_, _, e, hx1, -⟩ := h.at_ 1 a rfl
  cases e
  obtain ⟨_, _, e, hx2, -⟩ := h.at_ 2 b rfl
  cases e
  rw [Nat.add_zero] at hx0
  obtain ⟨hc1, hc2⟩ := hc
  obtain ⟨ha1, ha2⟩ := ha
  obtain ⟨hb1, hb2⟩ := hb
  obtain ⟨W1, hW1, -, -, hz1, hB1, hh1⟩ := new_block w #[.int .i64 x, .int .u8 4, .slice (some ⟨bi, off, none⟩) 3 c0] 70
  obtain ⟨W2, hW2, -, -, hz2, hB2, hh2⟩ := new_block W1 #[.int .i64 0, .int .u8 0, .slice none 0 0] 70
  rw [hz1] at hh2 hz2
  have hr1 := row_below hh1 hB2
  have hBB := below_then hB1 hB1.size hB2
  have hp0 : W2.cell? ⟨w.heap.size, 0, none⟩ = some (.int .i64 x) := cell_row hr1 rfl
  have hp1 : W2.cell? ⟨w.heap.size, 1, none⟩ = some (.int .u8 4) := cell_row hr1 rfl
  have hp2 : W2.cell? ⟨w.heap.size, 2, none⟩ = some (.slice (some ⟨bi, off, none⟩) 3 c0) := cell_row hr1 rfl
  have HZ := hid hz1
  have HZ2 := hid (row_lt hh2)
  have hy0 := keeps_below hBB _ _ hx0
  have hy1 := keeps_below hBB _ _ hx1
  have hy2 := keeps_below hBB _ _ hx2
  have HH := hid h
  clear hx0 hx1 hx2 h hB1 hB2 hh1 hz2
  go_enter Try.func88, Try.ntmps88
  go_wp2_with fail
  go_quiet (fail)
  obtain ⟨W3, hW3⟩ : ∃ W3, W2.drewN nq = W3 := ⟨_, rfl⟩
  have hB3 : Below W2.heap.size W2 W3 := by rw [← hW3]; exact below_drewN (Below.refl _ _) _
  rw [hW3]
  have hr13 := row_below hr1 hB3
  have hr23 := row_below hh2 hB3
  have hB03 := below_then hBB hBB.size hB3
  obtain ⟨W4, hW4, -, -, hz4, hB4, hh4⟩ := new_block W3 #[.int .i64 (-c), .int .i64 (b)] 3
  obtain ⟨W5, hW5⟩ : ∃ W5, W4.setCell ⟨w.heap.size, 1, none⟩ (.int .u8 1) = W5 := ⟨_, rfl⟩
  have hr14 := row_below hr13 hB4
  have hr24 := row_below hr23 hB4
  have hr15 : W5.heap[w.heap.size]? = some (.cells #[.int .i64 x, .int .u8 1, .slice (some ⟨bi, off, none⟩) 3 c0] 70 (0, 0)) := by
    rw [← hW5]; exact heap_setCell_same _ _ 1 _ _ _ hr14
  have hr25 : W5.heap[w.heap.size + 1]? = some (.cells #[.int .i64 0, .int .u8 0, .slice none 0 0] 70 (0, 0)) := by
    rw [← hW5, heap_setCell_other _ _ _ _ (by simp)]; exact hr24
  have hlt3 : w.heap.size + 1 < W3.heap.size := row_lt hr23
  have hh5 : W5.heap[W3.heap.size]? = some (.cells #[.int .i64 (-c), .int .i64 (b)] 3 (0, 0)) := by
    rw [← hW5, heap_setCell_other _ _ _ _ (by simp; omega)]; exact hh4
  have hB05 : Below w.heap.size w W5 := by
    rw [← hW5]; exact (below_then hB03 hB03.size hB4).setCell (p := ⟨w.heap.size, 1, none⟩) (Nat.le_refl _) _
  have hi5 : IntsAt W5 (.slice (some ⟨W3.heap.size, 0, none⟩) 2 2) [-c, b] := by
    refine ⟨some ⟨W3.heap.size, 0, none⟩, 2, rfl, Nat.le_refl _, by omega, fun _ => ⟨W3.heap.size, 0, rfl, fun j y hj => ?_⟩⟩
    rw [Nat.zero_add, Nat.mul_one]
    match j, hj with
    | 0, hj => injection hj with hj; subst hj; exact ⟨cell_row hh5 rfl, by unfold I64; omega⟩
    | 1, hj => injection hj with hj; subst hj; exact ⟨cell_row hh5 rfl, by unfold I64; omega⟩
  have C := gather_any (.slice (some ⟨W3.heap.size, 0, none⟩) 2 2) [-c, b] (65537) W5 hi5 (by simp) (by intro y hy; simp at hy; omega) (by simp)
  have hsz5 : w.heap.size + 2 ≤ W5.heap.size := by have := row_lt hr25; omega
  have hf4 : W4.frozen? ⟨w.heap.size, 1, none⟩ = false := frozen_of_row _ _ _ _ _ hr14
  have hc41 : W4.cell? ⟨w.heap.size, 1, none⟩ = some (.int .u8 4) := cell_row hr14 rfl
  have hc51 : W5.cell? ⟨w.heap.size, 1, none⟩ = some (.int .u8 1) := cell_row hr15 rfl
  clear hW3 hB3 hp0 hp1 hp2 hr1 hh2 hy0 hy1 hy2 hBB hW1 hW2 hB03 hr13 hr23 hr14 hr24 hh4 hh5 hi5 hB4
  have HZ4 := hid hz4
  clear hz4
  go_wp2_with fail
  refine C.mono ?_
  rintro e w6 ⟨hB6, vo, rfl, hvo, hfo⟩
  have hr16 := row_below hr15 hB6
  have hr26 := row_below hr25 hB6
  have hB06 := below_then hB05 hB05.size hB6
  have hf6 : w6.frozen? ⟨w.heap.size, 2, none⟩ = false := frozen_of_row _ _ _ _ _ hr16
  have hc62 : w6.cell? ⟨w.heap.size, 2, none⟩ = some (.slice (some ⟨bi, off, none⟩) 3 c0) := cell_row hr16 rfl
  obtain ⟨Ao, co, e0, -, -⟩ := SlAt.form hvo
  obtain ⟨W3, hW3⟩ : ∃ W3, w6.setCell ⟨w.heap.size, 2, none⟩ vo = W3 := ⟨_, rfl⟩
  have hr13 : W3.heap[w.heap.size]? = some (.cells #[.int .i64 x, .int .u8 1, vo] 70 (0, 0)) := by
    rw [← hW3]; exact heap_setCell_same _ _ 2 _ _ _ hr16
  have hr23 : W3.heap[w.heap.size + 1]? = some (.cells #[.int .i64 0, .int .u8 0, .slice none 0 0] 70 (0, 0)) := by
    rw [← hW3, heap_setCell_other _ _ _ _ (by simp)]; exact hr26
  have hB03 : Below w.heap.size w W3 := by
    rw [← hW3]; exact hB06.setCell (p := ⟨w.heap.size, 2, none⟩) (Nat.le_refl _) _
  have hv3 : IntsAt W3 vo (gatherP (65537) [-c, b]).2 := by
    rw [← hW3]; exact hvo.kept (grown_setCell w6 ⟨w.heap.size, 2, none⟩ vo) (fun b hb e => by have := hfo b hb; injection e with e; simp at e; omega)
  have hfv : ∀ b, vo.ownBlock = some b → w.heap.size + 2 ≤ b := fun b hb => Nat.le_trans hsz5 (hfo b hb)
  have HV3 := hid hv3
  have HFV := hid hfv
  subst e0
  clear C hr15 hr25 hr16 hr26 hB05 hB06 hB6 hvo hfo hv3 hfv
  have HW3 := hid hW3
  go_wp2_with fail
  clear hW3 HW3
  have hq0 : ∀ p, (since W3 p).cell? ⟨w.heap.size, 0, none⟩ = some (.int .i64 x) := fun p => cell_since (cell_row hr13 rfl) p
  have hq1 : ∀ p, (since W3 p).cell? ⟨w.heap.size, 1, none⟩ = some (.int .u8 1) := fun p => cell_since (cell_row hr13 rfl) p
  have hq2 : ∀ p, (since W3 p).cell? ⟨w.heap.size, 2, none⟩ = some (.slice Ao (gatherP (65537) [-c, b]).2.length co) := fun p => cell_since (cell_row hr13 rfl) p
  refine region_tail 3 (by kernel_rfl) (by kernel_rfl) ?_
  simp only [List.take_succ_cons, List.take_zero, List.drop_succ_cons, List.drop_zero]
  repeat (first | go_big_quiet_step ((fail)) | quiet_step ((fail)))
  refine wpQuiet_nil ?_
  rintro W ⟨pw, hW⟩
  have hBW : Below W3.heap.size W3 W := by rw [hW]; exact since_below W3 pw
  have hrW := row_below hr23 hBW
  have hw0 : W.cell? ⟨w.heap.size + 1, 0, none⟩ = some (.int .i64 0) := cell_row hrW rfl
  have hw1 : W.cell? ⟨w.heap.size + 1, 1, none⟩ = some (.int .u8 0) := cell_row hrW rfl
  have hw2 : W.cell? ⟨w.heap.size + 1, 2, none⟩ = some (.slice none 0 0) := cell_row hrW rfl
  have hwf : ∀ j, W.frozen? ⟨w.heap.size + 1, j, none⟩ = false := fun j => frozen_of_row _ _ _ _ _ hrW
  have hBE := below_then hB03 hB03.size hBW
  clear hW hq0 hq1 hq2 hr13 hr23
  go_wp2_with fail
  refine bodyPost_ret (v := .tuple #[.int .i64 ((gatherP (65537) [-c, b]).1), .agg #[.int .i64 x, .int .u8 1, .slice Ao (gatherP (65537) [-c, b]).2.length co]]) (by simp [results, Try.results88, go_sem, hw0, hw1, hw2]) rfl ?_
  exact simpl_new HV3.out hBE hBW HFV.out

set_option maxHeartbeats 4000000 in
set_option maxRecDepth 100000 in
theorem simplified_ite6 (x c a b : Int) (v0 : Value) (w : World) (h : IntsAt w v0 [c, a, b]) (hc : -65537 ≤ c ∧ c ≤ 65537) (ha : -65537 ≤ a ∧ a ≤ 65537) (hb : -65537 ≤ b ∧ b ≤ 65537)
    (g0 : (c == 65537) = false)
    (g1 : (c != -65537) = true)
    (g2 : (a == b) = false)
    (g3 : (c == -65537) = false)
    (g4 : (a == 65537) = false)
    (g5 : (a == -65537) = false)
    (g6 : (b == 65537) = true) :
    Calls Try.prog 88 #[.agg #[.int .i64 x, .int .u8 4, v0]] w (SimplPost w x v0 (gatherP (-65537) [-c, a]).1 2 (gatherP (-65537) [-c, a]).2) := by
  obtain ⟨A, c0, e0, hlc, hcm⟩ := SlAt.form h
  replace e0 : v0 = .slice A 3 c0 := e0
  replace hlc : 3 ≤ c0 := hlc
  subst e0
  obtain ⟨bi, off, rfl, hx0, -⟩ := h.at_ 0 c rfl
  obtain ⟨_, _, e, hx1, -⟩ := h.at_ 1 a rfl
  cases e
  obtain ⟨_, _, e, hx2, -⟩ := h.at_ 2 b rfl
  cases e
  rw [Nat.add_zero] at hx0
  obtain ⟨hc1, hc2⟩ := hc
  obtain ⟨ha1, ha2⟩ := ha
  obtain ⟨hb1, hb2⟩ := hb
  obtain ⟨W1, hW1, -, -, hz1, hB1, hh1⟩ := new_block w #[.int .i64 x, .int .u8 4, .slice (some ⟨bi, off, none⟩) 3 c0] 70
  obtain ⟨W2, hW2, -, -, hz2, hB2, hh2⟩ := new_block W1 #[.int .i64 0, .int .u8 0, .slice none 0 0] 70
  rw [hz1] at hh2 hz2
  have hr1 := row_below hh1 hB2
  have hBB := below_then hB1 hB1.size hB2
  have hp0 : W2.cell? ⟨w.heap.size, 0, none⟩ = some (.int .i64 x) := cell_row hr1 rfl
  have hp1 : W2.cell? ⟨w.heap.size, 1, none⟩ = some (.int .u8 4) := cell_row hr1 rfl
  have hp2 : W2.cell? ⟨w.heap.size, 2, none⟩ = some (.slice (some ⟨bi, off, none⟩) 3 c0) := cell_row hr1 rfl
  have HZ := hid hz1
  have HZ2 := hid (row_lt hh2)
  have hy0 := keeps_below hBB _ _ hx0
  have hy1 := keeps_below hBB _ _ hx1
  have hy2 := keeps_below hBB _ _ hx2
  have HH := hid h
  clear hx0 hx1 hx2 h hB1 hB2 hh1 hz2
  go_enter Try.func88, Try.ntmps88
  go_wp2_with fail
  go_quiet (fail)
  obtain ⟨W3, hW3⟩ : ∃ W3, W2.drewN nq = W3 := ⟨_, rfl⟩
  have hB3 : Below W2.heap.size W2 W3 := by rw [← hW3]; exact below_drewN (Below.refl _ _) _
  rw [hW3]
  have hr13 := row_below hr1 hB3
  have hr23 := row_below hh2 hB3
  have hB03 := below_then hBB hBB.size hB3
  obtain ⟨W4, hW4, -, -, hz4, hB4, hh4⟩ := new_block W3 #[.int .i64 (-c), .int .i64 (a)] 3
  obtain ⟨W5, hW5⟩ : ∃ W5, W4.setCell ⟨w.heap.size, 1, none⟩ (.int .u8 2) = W5 := ⟨_, rfl⟩
  have hr14 := row_below hr13 hB4
  have hr24 := row_below hr23 hB4
  have hr15 : W5.heap[w.heap.size]? = some (.cells #[.int .i64 x, .int .u8 2, .slice (some ⟨bi, off, none⟩) 3 c0] 70 (0, 0)) := by
    rw [← hW5]; exact heap_setCell_same _ _ 1 _ _ _ hr14
  have hr25 : W5.heap[w.heap.size + 1]? = some (.cells #[.int .i64 0, .int .u8 0, .slice none 0 0] 70 (0, 0)) := by
    rw [← hW5, heap_setCell_other _ _ _ _ (by simp)]; exact hr24
  have hlt3 : w.heap.size + 1 < W3.heap.size := row_lt hr23
  have hh5 : W5.heap[W3.heap.size]? = some (.cells #[.int .i64 (-c), .int .i64 (a)] 3 (0, 0)) := by
    rw [← hW5, heap_setCell_other _ _ _ _ (by simp; omega)]; exact hh4
  have hB05 : Below w.heap.size w W5 := by
    rw [← hW5]; exact (below_then hB03 hB03.size hB4).setCell (p := ⟨w.heap.size, 1, none⟩) (Nat.le_refl _) _
  have hi5 : IntsAt W5 (.slice (some ⟨W3.heap.size, 0, none⟩) 2 2) [-c, a] := by
    refine ⟨some ⟨W3.heap.size, 0, none⟩, 2, rfl, Nat.le_refl _, by omega, fun _ => ⟨W3.heap.size, 0, rfl, fun j y hj => ?_⟩⟩
    rw [Nat.zero_add, Nat.mul_one]
    match j, hj with
    | 0, hj => injection hj with hj; subst hj; exact ⟨cell_row hh5 rfl, by unfold I64; omega⟩
    | 1, hj => injection hj with hj; subst hj; exact ⟨cell_row hh5 rfl, by unfold I64; omega⟩
  have C := gather_any (.slice (some ⟨W3.heap.size, 0, none⟩) 2 2) [-c, a] (-65537) W5 hi5 (by simp) (by intro y hy; simp at hy; omega) (by simp)
  have hsz5 : w.heap.size + 2 ≤ W5.heap.size := by have := row_lt hr25; omega
  have hf4 : W4.frozen? ⟨w.heap.size, 1, none⟩ = false := frozen_of_row _ _ _ _ _ hr14
  have hc41 : W4.cell? ⟨w.heap.size, 1, none⟩ = some (.int .u8 4) := cell_row hr14 rfl
  have hc51 : W5.cell? ⟨w.heap.size, 1, none⟩ = some (.int .u8 2) := cell_row hr15 rfl
  clear hW3 hB3 hp0 hp1 hp2 hr1 hh2 hy0 hy1 hy2 hBB hW1 hW2 hB03 hr13 hr23 hr14 hr24 hh4 hh5 hi5 hB4
  have HZ4 := hid hz4
  clear hz4
  go_wp2_with fail
  refine C.mono ?_
  rintro e w6 ⟨hB6, vo, rfl, hvo, hfo⟩
  have hr16 := row_below hr15 hB6
  have hr26 := row_below hr25 hB6
  have hB06 := below_then hB05 hB05.size hB6
  have hf6 : w6.frozen? ⟨w.heap.size, 2, none⟩ = false := frozen_of_row _ _ _ _ _ hr16
  have hc62 : w6.cell? ⟨w.heap.size, 2, none⟩ = some (.slice (some ⟨bi, off, none⟩) 3 c0) := cell_row hr16 rfl
  obtain ⟨Ao, co, e0, -, -⟩ := SlAt.form hvo
  obtain ⟨W3, hW3⟩ : ∃ W3, w6.setCell ⟨w.heap.size, 2, none⟩ vo = W3 := ⟨_, rfl⟩
  have hr13 : W3.heap[w.heap.size]? = some (.cells #[.int .i64 x, .int .u8 2, vo] 70 (0, 0)) := by
    rw [← hW3]; exact heap_setCell_same _ _ 2 _ _ _ hr16
  have hr23 : W3.heap[w.heap.size + 1]? = some (.cells #[.int .i64 0, .int .u8 0, .slice none 0 0] 70 (0, 0)) := by
    rw [← hW3, heap_setCell_other _ _ _ _ (by simp)]; exact hr26
  have hB03 : Below w.heap.size w W3 := by
    rw [← hW3]; exact hB06.setCell (p := ⟨w.heap.size, 2, none⟩) (Nat.le_refl _) _
  have hv3 : IntsAt W3 vo (gatherP (-65537) [-c, a]).2 := by
    rw [← hW3]; exact hvo.kept (grown_setCell w6 ⟨w.heap.size, 2, none⟩ vo) (fun b hb e => by have := hfo b hb; injection e with e; simp at e; omega)
  have hfv : ∀ b, vo.ownBlock = some b → w.heap.size + 2 ≤ b := fun b hb => Nat.le_trans hsz5 (hfo b hb)
  have HV3 := hid hv3
  have HFV := hid hfv
  subst e0
  clear C hr15 hr25 hr16 hr26 hB05 hB06 hB6 hvo hfo hv3 hfv
  have HW3 := hid hW3
  go_wp2_with fail
  clear hW3 HW3
  have hq0 : ∀ p, (since W3 p).cell? ⟨w.heap.size, 0, none⟩ = some (.int .i64 x) := fun p => cell_since (cell_row hr13 rfl) p
  have hq1 : ∀ p, (since W3 p).cell? ⟨w.heap.size, 1, none⟩ = some (.int .u8 2) := fun p => cell_since (cell_row hr13 rfl) p
  have hq2 : ∀ p, (since W3 p).cell? ⟨w.heap.size, 2, none⟩ = some (.slice Ao (gatherP (-65537) [-c, a]).2.length co) := fun p => cell_since (cell_row hr13 rfl) p
  refine region_tail 3 (by kernel_rfl) (by kernel_rfl) ?_
  simp only [List.take_succ_cons, List.take_zero, List.drop_succ_cons, List.drop_zero]
  repeat (first | go_big_quiet_step ((fail)) | quiet_step ((fail)))
  refine wpQuiet_nil ?_
  rintro W ⟨pw, hW⟩
  have hBW : Below W3.heap.size W3 W := by rw [hW]; exact since_below W3 pw
  have hrW := row_below hr23 hBW
  have hw0 : W.cell? ⟨w.heap.size + 1, 0, none⟩ = some (.int .i64 0) := cell_row hrW rfl
  have hw1 : W.cell? ⟨w.heap.size + 1, 1, none⟩ = some (.int .u8 0) := cell_row hrW rfl
  have hw2 : W.cell? ⟨w.heap.size + 1, 2, none⟩ = some (.slice none 0 0) := cell_row hrW rfl
  have hwf : ∀ j, W.frozen? ⟨w.heap.size + 1, j, none⟩ = false := fun j => frozen_of_row _ _ _ _ _ hrW
  have hBE := below_then hB03 hB03.size hBW
  clear hW hq0 hq1 hq2 hr13 hr23
  go_wp2_with fail
  refine bodyPost_ret (v := .tuple #[.int .i64 ((gatherP (-65537) [-c, a]).1), .agg #[.int .i64 x, .int .u8 2, .slice Ao (gatherP (-65537) [-c, a]).2.length co]]) (by simp [results, Try.results88, go_sem, hw0, hw1, hw2]) rfl ?_
  exact simpl_new HV3.out hBE hBW HFV.out

set_option maxHeartbeats 4000000 in
set_option maxRecDepth 100000 in
theorem simplified_ite7 (x c a b : Int) (v0 : Value) (w : World) (h : IntsAt w v0 [c, a, b]) (hc : -65537 ≤ c ∧ c ≤ 65537) (ha : -65537 ≤ a ∧ a ≤ 65537) (hb : -65537 ≤ b ∧ b ≤ 65537)
    (g0 : (c == 65537) = false)
    (g1 : (c != -65537) = true)
    (g2 : (a == b) = false)
    (g3 : (c == -65537) = false)
    (g4 : (a == 65537) = false)
    (g5 : (a == -65537) = false)
    (g6 : (b == 65537) = false)
    (g7 : (b == -65537) = true) :
    Calls Try.prog 88 #[.agg #[.int .i64 x, .int .u8 4, v0]] w (SimplPost w x v0 (gatherP (65537) [c, a]).1 1 (gatherP (65537) [c, a]).2) := by
  obtain ⟨A, c0, e0, hlc, hcm⟩ := SlAt.form h
  replace e0 : v0 = .slice A 3 c0 := e0
  replace hlc : 3 ≤ c0 := hlc
  subst e0
  obtain ⟨bi, off, rfl, hx0, -⟩ := h.at_ 0 c rfl
  obtain ⟨_, _, e, hx1, -⟩ := h.at_ 1 a rfl
  cases e
  obtain ⟨_, _, e, hx2, -⟩ := h.at_ 2 b rfl
  cases e
  rw [Nat.add_zero] at hx0
  obtain ⟨hc1, hc2⟩ := hc
  obtain ⟨ha1, ha2⟩ := ha
  obtain ⟨hb1, hb2⟩ := hb
  obtain ⟨W1, hW1, -, -, hz1, hB1, hh1⟩ := new_block w #[.int .i64 x, .int .u8 4, .slice (some ⟨bi, off, none⟩) 3 c0] 70
  obtain ⟨W2, hW2, -, -, hz2, hB2, hh2⟩ := new_block W1 #[.int .i64 0, .int .u8 0, .slice none 0 0] 70
  rw [hz1] at hh2 hz2
  have hr1 := row_below hh1 hB2
  have hBB := below_then hB1 hB1.size hB2
  have hp0 : W2.cell? ⟨w.heap.size, 0, none⟩ = some (.int .i64 x) := cell_row hr1 rfl
  have hp1 : W2.cell? ⟨w.heap.size, 1, none⟩ = some (.int .u8 4) := cell_row hr1 rfl
  have hp2 : W2.cell? ⟨w.heap.size, 2, none⟩ = some (.slice (some ⟨bi, off, none⟩) 3 c0) := cell_row hr1 rfl
  have HZ := hid hz1
  have HZ2 := hid (row_lt hh2)
  have hy0 := keeps_below hBB _ _ hx0
  have hy1 := keeps_below hBB _ _ hx1
  have hy2 := keeps_below hBB _ _ hx2
  have HH := hid h
  clear hx0 hx1 hx2 h hB1 hB2 hh1 hz2
  go_enter Try.func88, Try.ntmps88
  go_wp2_with fail
  go_quiet (fail)
  obtain ⟨W3, hW3⟩ : ∃ W3, W2.drewN nq = W3 := ⟨_, rfl⟩
  have hB3 : Below W2.heap.size W2 W3 := by rw [← hW3]; exact below_drewN (Below.refl _ _) _
  rw [hW3]
  have hr13 := row_below hr1 hB3
  have hr23 := row_below hh2 hB3
  have hB03 := below_then hBB hBB.size hB3
  obtain ⟨W4, hW4, -, -, hz4, hB4, hh4⟩ := new_block W3 #[.int .i64 (c), .int .i64 (a)] 3
  obtain ⟨W5, hW5⟩ : ∃ W5, W4.setCell ⟨w.heap.size, 1, none⟩ (.int .u8 1) = W5 := ⟨_, rfl⟩
  have hr14 := row_below hr13 hB4
  have hr24 := row_below hr23 hB4
  have hr15 : W5.heap[w.heap.size]? = some (.cells #[.int .i64 x, .int .u8 1, .slice (some ⟨bi, off, none⟩) 3 c0] 70 (0, 0)) := by
    rw [← hW5]; exact heap_setCell_same _ _ 1 _ _ _ hr14
  have hr25 : W5.heap[w.heap.size + 1]? = some (.cells #[.int .i64 0, .int .u8 0, .slice none 0 0] 70 (0, 0)) := by
    rw [← hW5, heap_setCell_other _ _ _ _ (by simp)]; exact hr24
  have hlt3 : w.heap.size + 1 < W3.heap.size := row_lt hr23
  have hh5 : W5.heap[W3.heap.size]? = some (.cells #[.int .i64 (c), .int .i64 (a)] 3 (0, 0)) := by
    rw [← hW5, heap_setCell_other _ _ _ _ (by simp; omega)]; exact hh4
  have hB05 : Below w.heap.size w W5 := by
    rw [← hW5]; exact (below_then hB03 hB03.size hB4).setCell (p := ⟨w.heap.size, 1, none⟩) (Nat.le_refl _) _
  have hi5 : IntsAt W5 (.slice (some ⟨W3.heap.size, 0, none⟩) 2 2) [c, a] := by
    refine ⟨some ⟨W3.heap.size, 0, none⟩, 2, rfl, Nat.le_refl _, by omega, fun _ => ⟨W3.heap.size, 0, rfl, fun j y hj => ?_⟩⟩
    rw [Nat.zero_add, Nat.mul_one]
    match j, hj with
    | 0, hj => injection hj with hj; subst hj; exact ⟨cell_row hh5 rfl, by unfold I64; omega⟩
    | 1, hj => injection hj with hj; subst hj; exact ⟨cell_row hh5 rfl, by unfold I64; omega⟩
  have C := gather_any (.slice (some ⟨W3.heap.size, 0, none⟩) 2 2) [c, a] (65537) W5 hi5 (by simp) (by intro y hy; simp at hy; omega) (by simp)
  have hsz5 : w.heap.size + 2 ≤ W5.heap.size := by have := row_lt hr25; omega
  have hf4 : W4.frozen? ⟨w.heap.size, 1, none⟩ = false := frozen_of_row _ _ _ _ _ hr14
  have hc41 : W4.cell? ⟨w.heap.size, 1, none⟩ = some (.int .u8 4) := cell_row hr14 rfl
  have hc51 : W5.cell? ⟨w.heap.size, 1, none⟩ = some (.int .u8 1) := cell_row hr15 rfl
  clear hW3 hB3 hp0 hp1 hp2 hr1 hh2 hy0 hy1 hy2 hBB hW1 hW2 hB03 hr13 hr23 hr14 hr24 hh4 hh5 hi5 hB4
  have HZ4 := hid hz4
  clear hz4
  go_wp2_with fail
  refine C.mono ?_
  rintro e w6 ⟨hB6, vo, rfl, hvo, hfo⟩
  have hr16 := row_below hr15 hB6
  have hr26 := row_below hr25 hB6
  have hB06 := below_then hB05 hB05.size hB6
  have hf6 : w6.frozen? ⟨w.heap.size, 2, none⟩ = false := frozen_of_row _ _ _ _ _ hr16
  have hc62 : w6.cell? ⟨w.heap.size, 2, none⟩ = some (.slice (some ⟨bi, off, none⟩) 3 c0) := cell_row hr16 rfl
  obtain ⟨Ao, co, e0, -, -⟩ := SlAt.form hvo
  obtain ⟨W3, hW3⟩ : ∃ W3, w6.setCell ⟨w.heap.size, 2, none⟩ vo = W3 := ⟨_, rfl⟩
  have hr13 : W3.heap[w.heap.size]? = some (.cells #[.int .i64 x, .int .u8 1, vo] 70 (0, 0)) := by
    rw [← hW3]; exact heap_setCell_same _ _ 2 _ _ _ hr16
  have hr23 : W3.heap[w.heap.size + 1]? = some (.cells #[.int .i64 0, .int .u8 0, .slice none 0 0] 70 (0, 0)) := by
    rw [← hW3, heap_setCell_other _ _ _ _ (by simp)]; exact hr26
  have hB03 : Below w.heap.size w W3 := by
    rw [← hW3]; exact hB06.setCell (p := ⟨w.heap.size, 2, none⟩) (Nat.le_refl _) _
  have hv3 : IntsAt W3 vo (gatherP (65537) [c, a]).2 := by
    rw [← hW3]; exact hvo.kept (grown_setCell w6 ⟨w.heap.size, 2, none⟩ vo) (fun b hb e => by have := hfo b hb; injection e with e; simp at e; omega)
  have hfv : ∀ b, vo.ownBlock = some b → w.heap.size + 2 ≤ b := fun b hb => Nat.le_trans hsz5 (hfo b hb)
  have HV3 := hid hv3
  have HFV := hid hfv
  subst e0
  clear C hr15 hr25 hr16 hr26 hB05 hB06 hB6 hvo hfo hv3 hfv
  have HW3 := hid hW3
  go_wp2_with fail
  clear hW3 HW3
  have hq0 : ∀ p, (since W3 p).cell? ⟨w.heap.size, 0, none⟩ = some (.int .i64 x) := fun p => cell_since (cell_row hr13 rfl) p
  have hq1 : ∀ p, (since W3 p).cell? ⟨w.heap.size, 1, none⟩ = some (.int .u8 1) := fun p => cell_since (cell_row hr13 rfl) p
  have hq2 : ∀ p, (since W3 p).cell? ⟨w.heap.size, 2, none⟩ = some (.slice Ao (gatherP (65537) [c, a]).2.length co) := fun p => cell_since (cell_row hr13 rfl) p
  refine region_tail 3 (by kernel_rfl) (by kernel_rfl) ?_
  simp only [List.take_succ_cons, List.take_zero, List.drop_succ_cons, List.drop_zero]
  repeat (first | go_big_quiet_step ((fail)) | quiet_step ((fail)))
  refine wpQuiet_nil ?_
  rintro W ⟨pw, hW⟩
  have hBW : Below W3.heap.size W3 W := by rw [hW]; exact since_below W3 pw
  have hrW := row_below hr23 hBW
  have hw0 : W.cell? ⟨w.heap.size + 1, 0, none⟩ = some (.int .i64 0) := cell_row hrW rfl
  have hw1 : W.cell? ⟨w.heap.size + 1, 1, none⟩ = some (.int .u8 0) := cell_row hrW rfl
  have hw2 : W.cell? ⟨w.heap.size + 1, 2, none⟩ = some (.slice none 0 0) := cell_row hrW rfl
  have hwf : ∀ j, W.frozen? ⟨w.heap.size + 1, j, none⟩ = false := fun j => frozen_of_row _ _ _ _ _ hrW
  have hBE := below_then hB03 hB03.size hBW
  clear hW hq0 hq1 hq2 hr13 hr23
  go_wp2_with fail
  refine bodyPost_ret (v := .tuple #[.int .i64 ((gatherP (65537) [c, a]).1), .agg #[.int .i64 x, .int .u8 1, .slice Ao (gatherP (65537) [c, a]).2.length co]]) (by simp [results, Try.results88, go_sem, hw0, hw1, hw2]) rfl ?_
  exact simpl_new HV3.out hBE hBW HFV.out

set_option maxHeartbeats 4000000 in
set_option maxRecDepth 100000 in
theorem simplified_ite8 (x c a b : Int) (v0 : Value) (w : World) (h : IntsAt w v0 [c, a, b]) (hc : -65537 ≤ c ∧ c ≤ 65537) (ha : -65537 ≤ a ∧ a ≤ 65537) (hb : -65537 ≤ b ∧ b ≤ 65537)
    (g0 : (c == 65537) = false)
    (g1 : (c != -65537) = true)
    (g2 : (a == b) = false)
    (g3 : (c == -65537) = false)
    (g4 : (a == 65537) = false)
    (g5 : (a == -65537) = false)
    (g6 : (b == 65537) = false)
    (g7 : (b == -65537) = false) :
    Calls Try.prog 88 #[.agg #[.int .i64 x, .int .u8 4, v0]] w (SimplPost w x v0 (0) 4 [c, a, b]) := by
  obtain ⟨A, c0, e0, hlc, hcm⟩ := SlAt.form h
  replace e0 : v0 = .slice A 3 c0 := e0
  replace hlc : 3 ≤ c0 := hlc
  subst e0
  obtain ⟨bi, off, rfl, hx0, -⟩ := h.at_ 0 c rfl
  obtain ⟨_, _, e, hx1, -⟩ := h.at_ 1 a rfl
  cases e
  obtain ⟨_, _, e, hx2, -⟩ := h.at_ 2 b rfl
  cases e
  rw [Nat.add_zero] at hx0
  obtain ⟨hc1, hc2⟩ := hc
  obtain ⟨ha1, ha2⟩ := ha
  obtain ⟨hb1, hb2⟩ := hb
  obtain ⟨W1, hW1, -, -, hz1, hB1, hh1⟩ := new_block w #[.int .i64 x, .int .u8 4, .slice (some ⟨bi, off, none⟩) 3 c0] 70
  obtain ⟨W2, hW2, -, -, hz2, hB2, hh2⟩ := new_block W1 #[.int .i64 0, .int .u8 0, .slice none 0 0] 70
  rw [hz1] at hh2 hz2
  have hr1 := row_below hh1 hB2
  have hBB := below_then hB1 hB1.size hB2
  have hp0 : W2.cell? ⟨w.heap.size, 0, none⟩ = some (.int .i64 x) := cell_row hr1 rfl
  have hp1 : W2.cell? ⟨w.heap.size, 1, none⟩ = some (.int .u8 4) := cell_row hr1 rfl
  have hp2 : W2.cell? ⟨w.heap.size, 2, none⟩ = some (.slice (some ⟨bi, off, none⟩) 3 c0) := cell_row hr1 rfl
  have HZ := hid hz1
  have HZ2 := hid (row_lt hh2)
  have hy0 := keeps_below hBB _ _ hx0
  have hy1 := keeps_below hBB _ _ hx1
  have hy2 := keeps_below hBB _ _ hx2
  have HH := hid h
  clear hx0 hx1 hx2 h hB1 hB2 hh1 hz2
  go_enter Try.func88, Try.ntmps88
  go_wp2_with fail
  go_quiet (fail)
  obtain ⟨W3, hW3⟩ : ∃ W3, W2.drewN nq = W3 := ⟨_, rfl⟩
  have hB3 : Below W2.heap.size W2 W3 := by rw [← hW3]; exact below_drewN (Below.refl _ _) _
  rw [hW3]
  have hr13 := row_below hr1 hB3
  have hr23 := row_below hh2 hB3
  have hB03 := below_then hBB hBB.size hB3
  clear hW3 hB3 hp0 hp1 hp2 hr1 hh2 hy0 hy1 hy2 hBB hW1 hW2
  go_wp2_with fail
  have hq0 : ∀ p, (since W3 p).cell? ⟨w.heap.size, 0, none⟩ = some (.int .i64 x) := fun p => cell_since (cell_row hr13 rfl) p
  have hq1 : ∀ p, (since W3 p).cell? ⟨w.heap.size, 1, none⟩ = some (.int .u8 4) := fun p => cell_since (cell_row hr13 rfl) p
  have hq2 : ∀ p, (since W3 p).cell? ⟨w.heap.size, 2, none⟩ = some (.slice (some ⟨bi, off, none⟩) 3 c0) := fun p => cell_since (cell_row hr13 rfl) p
  refine region_tail 2 (by kernel_rfl) (by kernel_rfl) ?_
  simp only [List.take_succ_cons, List.take_zero, List.drop_succ_cons, List.drop_zero]
  repeat (first | go_big_quiet_step ((fail)) | quiet_step ((fail)))
  refine wpQuiet_nil ?_
  rintro W ⟨pw, hW⟩
  have hBW : Below W3.heap.size W3 W := by rw [hW]; exact since_below W3 pw
  have hrW := row_below hr23 hBW
  have hw0 : W.cell? ⟨w.heap.size + 1, 0, none⟩ = some (.int .i64 0) := cell_row hrW rfl
  have hw1 : W.cell? ⟨w.heap.size + 1, 1, none⟩ = some (.int .u8 0) := cell_row hrW rfl
  have hw2 : W.cell? ⟨w.heap.size + 1, 2, none⟩ = some (.slice none 0 0) := cell_row hrW rfl
  have hwf : ∀ j, W.frozen? ⟨w.heap.size + 1, j, none⟩ = false := fun j => frozen_of_row _ _ _ _ _ hrW
  have hBE := below_then hB03 hB03.size hBW
  clear hW hq0 hq1 hq2 hr13 hr23
  go_wp2_with fail
  refine bodyPost_ret (v := .tuple #[.int .i64 (0), .agg #[.int .i64 x, .int .u8 4, .slice (some ⟨bi, off, none⟩) 3 c0]]) (by simp [results, Try.results88, go_sem, hw0, hw1, hw2]) rfl ?_
  exact simpl_old HH.out hBE

set_option maxHeartbeats 4000000 in
set_option maxRecDepth 100000 in
theorem simplified_and (x : Int) (ls : List Int) (v0 : Value) (w : World) (h : IntsAt w v0 ls) (hls : ∀ y ∈ ls, -65537 ≤ y ∧ y ≤ 65537) (hn : ls.length ≤ 1099511627776) :
    Calls Try.prog 88 #[.agg #[.int .i64 x, .int .u8 1, v0]] w (SimplPost w x v0 (gatherP (65537) ls).1 1 (gatherP (65537) ls).2) := by
  obtain ⟨A, c0, rfl, hlc, hcm⟩ := SlAt.form h
  obtain ⟨W1, hW1, -, -, hz1, hB1, hh1⟩ := new_block w #[.int .i64 x, .int .u8 1, .slice A ls.length c0] 70
  obtain ⟨W2, hW2, -, -, hz2, hB2, hh2⟩ := new_block W1 #[.int .i64 0, .int .u8 0, .slice none 0 0] 70
  rw [hz1] at hh2 hz2
  have hr1 := row_below hh1 hB2
  have hBB := below_then hB1 hB1.size hB2
  have hp0 : W2.cell? ⟨w.heap.size, 0, none⟩ = some (.int .i64 x) := cell_row hr1 rfl
  have hp1 : W2.cell? ⟨w.heap.size, 1, none⟩ = some (.int .u8 1) := cell_row hr1 rfl
  have hp2 : W2.cell? ⟨w.heap.size, 2, none⟩ = some (.slice A ls.length c0) := cell_row hr1 rfl
  have HZ := hid hz1
  have HZ2 := hid (row_lt hh2)
  have hB05 := hBB
  have C := gather_any (.slice A ls.length c0) ls (65537) W2 (h.keep (keeps_below hBB)) (by simp) hls hn
  have hr15 := hr1
  have hr25 := hh2
  have hsz5 : w.heap.size + 2 ≤ W2.heap.size := by have := row_lt hh2; omega
  clear h hB1 hB2 hh1 hz2 hls
  have HW1 := hid hW1
  go_enter Try.func88, Try.ntmps88
  go_wp2_with fail
  clear hW1 hW2 hBB hr1 hh2 hp0 hp1 hp2
  refine C.mono ?_
  rintro e w6 ⟨hB6, vo, rfl, hvo, hfo⟩
  have hr16 := row_below hr15 hB6
  have hr26 := row_below hr25 hB6
  have hB06 := below_then hB05 hB05.size hB6
  have hf6 : w6.frozen? ⟨w.heap.size, 2, none⟩ = false := frozen_of_row _ _ _ _ _ hr16
  have hc62 : w6.cell? ⟨w.heap.size, 2, none⟩ = some (.slice A ls.length c0) := cell_row hr16 rfl
  obtain ⟨Ao, co, e0, -, -⟩ := SlAt.form hvo
  obtain ⟨W3, hW3⟩ : ∃ W3, w6.setCell ⟨w.heap.size, 2, none⟩ vo = W3 := ⟨_, rfl⟩
  have hr13 : W3.heap[w.heap.size]? = some (.cells #[.int .i64 x, .int .u8 1, vo] 70 (0, 0)) := by
    rw [← hW3]; exact heap_setCell_same _ _ 2 _ _ _ hr16
  have hr23 : W3.heap[w.heap.size + 1]? = some (.cells #[.int .i64 0, .int .u8 0, .slice none 0 0] 70 (0, 0)) := by
    rw [← hW3, heap_setCell_other _ _ _ _ (by simp)]; exact hr26
  have hB03 : Below w.heap.size w W3 := by
    rw [← hW3]; exact hB06.setCell (p := ⟨w.heap.size, 2, none⟩) (Nat.le_refl _) _
  have hv3 : IntsAt W3 vo (gatherP (65537) ls).2 := by
    rw [← hW3]; exact hvo.kept (grown_setCell w6 ⟨w.heap.size, 2, none⟩ vo) (fun b hb e => by have := hfo b hb; injection e with e; simp at e; omega)
  have hfv : ∀ b, vo.ownBlock = some b → w.heap.size + 2 ≤ b := fun b hb => Nat.le_trans hsz5 (hfo b hb)
  have HV3 := hid hv3
  have HFV := hid hfv
  subst e0
  clear C hr15 hr25 hr16 hr26 hB05 hB06 hB6 hvo hfo hv3 hfv
  have HW3 := hid hW3
  go_wp2_with fail
  clear hW3 HW3
  have hq0 : ∀ p, (since W3 p).cell? ⟨w.heap.size, 0, none⟩ = some (.int .i64 x) := fun p => cell_since (cell_row hr13 rfl) p
  have hq1 : ∀ p, (since W3 p).cell? ⟨w.heap.size, 1, none⟩ = some (.int .u8 1) := fun p => cell_since (cell_row hr13 rfl) p
  have hq2 : ∀ p, (since W3 p).cell? ⟨w.heap.size, 2, none⟩ = some (.slice Ao (gatherP (65537) ls).2.length co) := fun p => cell_since (cell_row hr13 rfl) p
  refine region_tail 3 (by kernel_rfl) (by kernel_rfl) ?_
  simp only [List.take_succ_cons, List.take_zero, List.drop_succ_cons, List.drop_zero]
  repeat (first | go_big_quiet_step ((fail)) | quiet_step ((fail)))
  refine wpQuiet_nil ?_
  rintro W ⟨pw, hW⟩
  have hBW : Below W3.heap.size W3 W := by rw [hW]; exact since_below W3 pw
  have hrW := row_below hr23 hBW
  have hw0 : W.cell? ⟨w.heap.size + 1, 0, none⟩ = some (.int .i64 0) := cell_row hrW rfl
  have hw1 : W.cell? ⟨w.heap.size + 1, 1, none⟩ = some (.int .u8 0) := cell_row hrW rfl
  have hw2 : W.cell? ⟨w.heap.size + 1, 2, none⟩ = some (.slice none 0 0) := cell_row hrW rfl
  have hwf : ∀ j, W.frozen? ⟨w.heap.size + 1, j, none⟩ = false := fun j => frozen_of_row _ _ _ _ _ hrW
  have hBE := below_then hB03 hB03.size hBW
  clear hW hq0 hq1 hq2 hr13 hr23
  go_wp2_with fail
  refine bodyPost_ret (v := .tuple #[.int .i64 ((gatherP (65537) ls).1), .agg #[.int .i64 x, .int .u8 1, .slice Ao (gatherP (65537) ls).2.length co]]) (by simp [results, Try.results88, go_sem, hw0, hw1, hw2]) rfl ?_
  exact simpl_new HV3.out hBE hBW HFV.out

set_option maxHeartbeats 4000000 in
set_option maxRecDepth 100000 in
theorem simplified_or (x : Int) (ls : List Int) (v0 : Value) (w : World) (h : IntsAt w v0 ls) (hls : ∀ y ∈ ls, -65537 ≤ y ∧ y ≤ 65537) (hn : ls.length ≤ 1099511627776) :
    Calls Try.prog 88 #[.agg #[.int .i64 x, .int .u8 2, v0]] w (SimplPost w x v0 (gatherP (-65537) ls).1 2 (gatherP (-65537) ls).2) := by
  obtain ⟨A, c0, rfl, hlc, hcm⟩ := SlAt.form h
  obtain ⟨W1, hW1, -, -, hz1, hB1, hh1⟩ := new_block w #[.int .i64 x, .int .u8 2, .slice A ls.length c0] 70
  obtain ⟨W2, hW2, -, -, hz2, hB2, hh2⟩ := new_block W1 #[.int .i64 0, .int .u8 0, .slice none 0 0] 70
  rw [hz1] at hh2 hz2
  have hr1 := row_below hh1 hB2
  have hBB := below_then hB1 hB1.size hB2
  have hp0 : W2.cell? ⟨w.heap.size, 0, none⟩ = some (.int .i64 x) := cell_row hr1 rfl
  have hp1 : W2.cell? ⟨w.heap.size, 1, none⟩ = some (.int .u8 2) := cell_row hr1 rfl
  have hp2 : W2.cell? ⟨w.heap.size, 2, none⟩ = some (.slice A ls.length c0) := cell_row hr1 rfl
  have HZ := hid hz1
  have HZ2 := hid (row_lt hh2)
  have hB05 := hBB
  have C := gather_any (.slice A ls.length c0) ls (-65537) W2 (h.keep (keeps_below hBB)) (by simp) hls hn
  have hr15 := hr1
  have hr25 := hh2
  have hsz5 : w.heap.size + 2 ≤ W2.heap.size := by have := row_lt hh2; omega
  clear h hB1 hB2 hh1 hz2 hls
  have HW1 := hid hW1
  go_enter Try.func88, Try.ntmps88
  go_wp2_with fail
  clear hW1 hW2 hBB hr1 hh2 hp0 hp1 hp2
  refine C.mono ?_
  rintro e w6 ⟨hB6, vo, rfl, hvo, hfo⟩
  have hr16 := row_below hr15 hB6
  have hr26 := row_below hr25 hB6
  have hB06 := below_then hB05 hB05.size hB6
  have hf6 : w6.frozen? ⟨w.heap.size, 2, none⟩ = false := frozen_of_row _ _ _ _ _ hr16
  have hc62 : w6.cell? ⟨w.heap.size, 2, none⟩ = some (.slice A ls.length c0) := cell_row hr16 rfl
  obtain ⟨Ao, co, e0, -, -⟩ := SlAt.form hvo
  obtain ⟨W3, hW3⟩ : ∃ W3, w6.setCell ⟨w.heap.size, 2, none⟩ vo = W3 := ⟨_, rfl⟩
  have hr13 : W3.heap[w.heap.size]? = some (.cells #[.int .i64 x, .int .u8 2, vo] 70 (0, 0)) := by
    rw [← hW3]; exact heap_setCell_same _ _ 2 _ _ _ hr16
  have hr23 : W3.heap[w.heap.size + 1]? = some (.cells #[.int .i64 0, .int .u8 0, .slice none 0 0] 70 (0, 0)) := by
    rw [← hW3, heap_setCell_other _ _ _ _ (by simp)]; exact hr26
  have hB03 : Below w.heap.size w W3 := by
    rw [← hW3]; exact hB06.setCell (p := ⟨w.heap.size, 2, none⟩) (Nat.le_refl _) _
  have hv3 : IntsAt W3 vo (gatherP (-65537) ls).2 := by
    rw [← hW3]; exact hvo.kept (grown_setCell w6 ⟨w.heap.size, 2, none⟩ vo) (fun b hb e => by have := hfo b hb; injection e with e; simp at e; omega)
  have hfv : ∀ b, vo.ownBlock = some b → w.heap.size + 2 ≤ b := fun b hb => Nat.le_trans hsz5 (hfo b hb)
  have HV3 := hid hv3
  have HFV := hid hfv
  subst e0
  clear C hr15 hr25 hr16 hr26 hB05 hB06 hB6 hvo hfo hv3 hfv
  have HW3 := hid hW3
  go_wp2_with fail
  clear hW3 HW3
  have hq0 : ∀ p, (since W3 p).cell? ⟨w.heap.size, 0, none⟩ = some (.int .i64 x) := fun p => cell_since (cell_row hr13 rfl) p
  have hq1 : ∀ p, (since W3 p).cell? ⟨w.heap.size, 1, none⟩ = some (.int .u8 2) := fun p => cell_since (cell_row hr13 rfl) p
  have hq2 : ∀ p, (since W3 p).cell? ⟨w.heap.size, 2, none⟩ = some (.slice Ao (gatherP (-65537) ls).2.length co) := fun p => cell_since (cell_row hr13 rfl) p
  refine region_tail 3 (by kernel_rfl) (by kernel_rfl) ?_
  simp only [List.take_succ_cons, List.take_zero, List.drop_succ_cons, List.drop_zero]
  repeat (first | go_big_quiet_step ((fail)) | quiet_step ((fail)))
  refine wpQuiet_nil ?_
  rintro W ⟨pw, hW⟩
  have hBW : Below W3.heap.size W3 W := by rw [hW]; exact since_below W3 pw
  have hrW := row_below hr23 hBW
  have hw0 : W.cell? ⟨w.heap.size + 1, 0, none⟩ = some (.int .i64 0) := cell_row hrW rfl
  have hw1 : W.cell? ⟨w.heap.size + 1, 1, none⟩ = some (.int .u8 0) := cell_row hrW rfl
  have hw2 : W.cell? ⟨w.heap.size + 1, 2, none⟩ = some (.slice none 0 0) := cell_row hrW rfl
  have hwf : ∀ j, W.frozen? ⟨w.heap.size + 1, j, none⟩ = false := fun j => frozen_of_row _ _ _ _ _ hrW
  have hBE := below_then hB03 hB03.size hBW
  clear hW hq0 hq1 hq2 hr13 hr23
  go_wp2_with fail
  refine bodyPost_ret (v := .tuple #[.int .i64 ((gatherP (-65537) ls).1), .agg #[.int .i64 x, .int .u8 2, .slice Ao (gatherP (-65537) ls).2.length co]]) (by simp [results, Try.results88, go_sem, hw0, hw1, hw2]) rfl ?_
  exact simpl_new HV3.out hBE hBW HFV.out

end Go.Proofs.Ytnlobmepajakcaa
