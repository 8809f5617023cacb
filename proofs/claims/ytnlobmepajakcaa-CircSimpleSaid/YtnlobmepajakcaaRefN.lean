/- What the reference's meaning does, case by case (printed by gen_mean.py); the condition: the literals' meanings lie within 1,000,000 and are not 0. -/
import Derived.Test.YtnlobmepajakcaaRefQ
import Derived.Test.YtnlobmepajakcaaSimpl
set_option linter.unusedVariables false
set_option linter.unusedSimpArgs false
namespace Go.Proofs.Ytnlobmepajakcaa
open Go.RowKit Go.Shelf

/-- The answer m, and, where it is 0, the gate that stays. -/
def MeanPost (w : World) (x : Int) (v : Value) (m k : Int) (ins : List Int) (e : Ending) (w' : World) : Prop :=
  Below w.heap.size w w' ∧ ∃ k' A n c, e = .returned (.tuple #[.int .i64 m, .agg #[.int .i64 x, .int .u8 k', .slice A n c]]) ∧
    (m = 0 → k' = k ∧ IntsAt w' (.slice A n c) ins ∧ ∀ b, (Value.slice A n c).ownBlock = some b → v.ownBlock = some b ∨ w.heap.size ≤ b)
theorem meanN_left {w W : World} {x m k k' : Int} {v : Value} {A : Option Addr} {n c : Nat} {ins : List Int} (hB : Below w.heap.size w W) (hm : m ≠ 0) :
    MeanPost w x v m k ins (.returned (.tuple #[.int .i64 m, .agg #[.int .i64 x, .int .u8 k', .slice A n c]])) (put3 W (w.heap.size + 1) x k' (.slice A n c)) :=
  ⟨put3_below hB (w.heap.size + 1) (by omega) x k' _, k', A, n, c, rfl, fun h => absurd h hm⟩
theorem meanN_stay {w W : World} {x k : Int} {A : Option Addr} {n c : Nat} {ins : List Int} (h : IntsAt w (.slice A n c) ins) (hB : Below w.heap.size w W) :
    MeanPost w x (.slice A n c) 0 k ins (.returned (.tuple #[.int .i64 0, .agg #[.int .i64 x, .int .u8 k, .slice A n c]])) (put3 W (w.heap.size + 1) x k (.slice A n c)) := by
  have hp := put3_below hB (w.heap.size + 1) (by omega) x k (.slice A n c)
  exact ⟨hp, k, A, n, c, rfl, fun _ => ⟨rfl, h.keep (keeps_below hp), fun b hb => .inl hb⟩⟩
theorem meanN_new {w W W' : World} {x m k : Int} {v : Value} {A : Option Addr} {n c : Nat} {ins : List Int} (h : IntsAt W (.slice A n c) ins) (hB : Below w.heap.size w W') (hk : Below W.heap.size W W') (hf : ∀ b, (Value.slice A n c).ownBlock = some b → w.heap.size + 2 ≤ b) :
    MeanPost w x v m k ins (.returned (.tuple #[.int .i64 m, .agg #[.int .i64 x, .int .u8 k, .slice A n c]])) (put3 W' (w.heap.size + 1) x k (.slice A n c)) := by
  have hp := put3_below hB (w.heap.size + 1) (by omega) x k (.slice A n c)
  refine ⟨hp, k, A, n, c, rfl, fun _ => ⟨rfl, (h.keep (keeps_below hk)).kept (put3_grown W' (w.heap.size + 1) x k _) (fun b hb e => ?_), fun b hb => .inr ?_⟩⟩
  · injection e with e; have := hf b hb; omega
  · have := hf b hb; omega

theorem two_ints {W : World} {g : Nat} {a b : Int} (h : W.heap[g]? = some (.cells #[.int .i64 a, .int .i64 b] 3 (0, 0))) (ha : I64 a) (hb : I64 b) : IntsAt W (.slice (some ⟨g, 0, none⟩) 2 2) [a, b] := by
  refine ⟨some ⟨g, 0, none⟩, 2, rfl, Nat.le_refl _, by omega, fun _ => ⟨g, 0, rfl, fun j y hj => ?_⟩⟩
  rw [Nat.zero_add, Nat.mul_one]
  match j, hj with
  | 0, hj => injection hj with hj; subst hj; exact ⟨cell_row h rfl, ha⟩
  | 1, hj => injection hj with hj; subst hj; exact ⟨cell_row h rfl, hb⟩

set_option maxHeartbeats 4000000 in
set_option maxRecDepth 100000 in
theorem meaning_xor1 (x a b : Int) (Ag : Option Addr) (ng cg : Nat) (v0 : Value) (w : World) (h : IntsAt w v0 [a, b]) (ha : -1000000 ≤ a ∧ a ≤ 1000000) (za : a ≠ 0) (hb : -1000000 ≤ b ∧ b ≤ 1000000) (zb : b ≠ 0)
    (g0 : (a == -1000000) = true) :
    Calls Try.prog 84 #[.agg #[.int .i64 x, .int .u8 3, .slice Ag ng cg], v0] w (MeanPost w x v0 (b) 3 [a, b]) := by
  obtain ⟨A, c0, e0, hlc, hcm⟩ := SlAt.form h
  replace e0 : v0 = .slice A 2 c0 := e0
  replace hlc : 2 ≤ c0 := hlc
  subst e0
  obtain ⟨bi, off, rfl, hx0, -⟩ := h.at_ 0 a rfl
  obtain ⟨_, _, e, hx1, -⟩ := h.at_ 1 b rfl
  cases e
  rw [Nat.add_zero] at hx0
  obtain ⟨ha1, ha2⟩ := ha
  have na : IntKind.i64.wrap (-a) = -a := IntWalk.i64_in _ (by omega)
  obtain ⟨hb1, hb2⟩ := hb
  have nb : IntKind.i64.wrap (-b) = -b := IntWalk.i64_in _ (by omega)
  obtain ⟨W1, hW1, -, -, hz1, hB1, hh1⟩ := new_block w #[.int .i64 x, .int .u8 3, .slice Ag ng cg] 70
  obtain ⟨W2, hW2, -, -, hz2, hB2, hh2⟩ := new_block W1 #[.int .i64 0, .int .u8 0, .slice none 0 0] 70
  rw [hz1] at hh2 hz2
  have hr1 := row_below hh1 hB2
  have hBB := below_then hB1 hB1.size hB2
  have hp0 : W2.cell? ⟨w.heap.size, 0, none⟩ = some (.int .i64 x) := cell_row hr1 rfl
  have hp1 : W2.cell? ⟨w.heap.size, 1, none⟩ = some (.int .u8 3) := cell_row hr1 rfl
  have hp2 : W2.cell? ⟨w.heap.size, 2, none⟩ = some (.slice Ag ng cg) := cell_row hr1 rfl
  have HZ := hid hz1
  have HZ2 := hid (row_lt hh2)
  have hy0 := fun p => cell_since (keeps_below hBB _ _ hx0) p
  have hy1 := fun p => cell_since (keeps_below hBB _ _ hx1) p
  have HH := hid h
  have HN := hid (And.intro za zb)
  clear hx0 hx1 h hB1 hB2 hh1 hz2 za zb
  go_enter Try.func84, Try.ntmps84
  go_wp2_with fail
  refine region_quiet (by kernel_rfl) (by kernel_rfl) ?_
  repeat (first | go_big_quiet_step (fail) | quiet_step (fail))
  refine wpQuiet_nil ?_
  rintro W3 ⟨p3, hW3⟩
  have hB3 : Below W2.heap.size W2 W3 := by rw [hW3]; exact since_below W2 p3
  have hr13 := row_below hr1 hB3
  have hr23 := row_below hh2 hB3
  have hB03 := below_then hBB hBB.size hB3
  clear hW3 hB3 hp0 hp1 hp2 hr1 hh2 hy0 hy1 hBB hW1 hW2
  have hq0 : ∀ p, (since W3 p).cell? ⟨w.heap.size, 0, none⟩ = some (.int .i64 x) := fun p => cell_since (cell_row hr13 rfl) p
  have hq1 : ∀ p, (since W3 p).cell? ⟨w.heap.size, 1, none⟩ = some (.int .u8 3) := fun p => cell_since (cell_row hr13 rfl) p
  have hq2 : ∀ p, (since W3 p).cell? ⟨w.heap.size, 2, none⟩ = some (.slice Ag ng cg) := fun p => cell_since (cell_row hr13 rfl) p
  go_wp2_with fail
  refine region_tail 3 (by kernel_rfl) (by kernel_rfl) ?_
  simp only [List.take_succ_cons, List.take_zero, List.drop_succ_cons, List.drop_zero]
  repeat (first | go_big_quiet_step (fail) | quiet_step (fail))
  refine wpQuiet_nil ?_
  rintro W ⟨pw, hW⟩
  have hBW : Below W3.heap.size W3 W := by rw [hW]; exact since_below W3 pw
  have hrW := row_below hr23 hBW
  have hw0 : W.cell? ⟨w.heap.size + 1, 0, none⟩ = some (.int .i64 0) := cell_row hrW rfl
  have hw1 : W.cell? ⟨w.heap.size + 1, 1, none⟩ = some (.int .u8 0) := cell_row hrW rfl
  have hw2 : W.cell? ⟨w.heap.size + 1, 2, none⟩ = some (.slice none 0 0) := cell_row hrW rfl
  have hwf : ∀ j, W.frozen? ⟨w.heap.size + 1, j, none⟩ = false := fun j => frozen_of_row _ _ _ _ _ hrW
  have hBE := below_then hB03 hB03.size hBW
  clear hW hq0 hq1 hq2 hr13 hr23
  go_wp2_with fail
  refine bodyPost_ret (v := .tuple #[.int .i64 (b), .agg #[.int .i64 x, .int .u8 3, .slice Ag ng cg]]) (by simp [results, Try.results84, go_sem, hw0, hw1, hw2]) rfl ?_
  exact meanN_left hBE (by have := HN.out.2; omega)

set_option maxHeartbeats 4000000 in
set_option maxRecDepth 100000 in
theorem meaning_xor2 (x a b : Int) (Ag : Option Addr) (ng cg : Nat) (v0 : Value) (w : World) (h : IntsAt w v0 [a, b]) (ha : -1000000 ≤ a ∧ a ≤ 1000000) (za : a ≠ 0) (hb : -1000000 ≤ b ∧ b ≤ 1000000) (zb : b ≠ 0)
    (g0 : (a == -1000000) = false)
    (g1 : (a == 1000000) = true) :
    Calls Try.prog 84 #[.agg #[.int .i64 x, .int .u8 3, .slice Ag ng cg], v0] w (MeanPost w x v0 (-b) 3 [a, b]) := by
  obtain ⟨A, c0, e0, hlc, hcm⟩ := SlAt.form h
  replace e0 : v0 = .slice A 2 c0 := e0
  replace hlc : 2 ≤ c0 := hlc
  subst e0
  obtain ⟨bi, off, rfl, hx0, -⟩ := h.at_ 0 a rfl
  obtain ⟨_, _, e, hx1, -⟩ := h.at_ 1 b rfl
  cases e
  rw [Nat.add_zero] at hx0
  obtain ⟨ha1, ha2⟩ := ha
  have na : IntKind.i64.wrap (-a) = -a := IntWalk.i64_in _ (by omega)
  obtain ⟨hb1, hb2⟩ := hb
  have nb : IntKind.i64.wrap (-b) = -b := IntWalk.i64_in _ (by omega)
  obtain ⟨W1, hW1, -, -, hz1, hB1, hh1⟩ := new_block w #[.int .i64 x, .int .u8 3, .slice Ag ng cg] 70
  obtain ⟨W2, hW2, -, -, hz2, hB2, hh2⟩ := new_block W1 #[.int .i64 0, .int .u8 0, .slice none 0 0] 70
  rw [hz1] at hh2 hz2
  have hr1 := row_below hh1 hB2
  have hBB := below_then hB1 hB1.size hB2
  have hp0 : W2.cell? ⟨w.heap.size, 0, none⟩ = some (.int .i64 x) := cell_row hr1 rfl
  have hp1 : W2.cell? ⟨w.heap.size, 1, none⟩ = some (.int .u8 3) := cell_row hr1 rfl
  have hp2 : W2.cell? ⟨w.heap.size, 2, none⟩ = some (.slice Ag ng cg) := cell_row hr1 rfl
  have HZ := hid hz1
  have HZ2 := hid (row_lt hh2)
  have hy0 := fun p => cell_since (keeps_below hBB _ _ hx0) p
  have hy1 := fun p => cell_since (keeps_below hBB _ _ hx1) p
  have HH := hid h
  have HN := hid (And.intro za zb)
  clear hx0 hx1 h hB1 hB2 hh1 hz2 za zb
  go_enter Try.func84, Try.ntmps84
  go_wp2_with fail
  refine region_quiet (by kernel_rfl) (by kernel_rfl) ?_
  repeat (first | go_big_quiet_step (fail) | quiet_step (fail))
  refine wpQuiet_nil ?_
  rintro W3 ⟨p3, hW3⟩
  have hB3 : Below W2.heap.size W2 W3 := by rw [hW3]; exact since_below W2 p3
  have hr13 := row_below hr1 hB3
  have hr23 := row_below hh2 hB3
  have hB03 := below_then hBB hBB.size hB3
  clear hW3 hB3 hp0 hp1 hp2 hr1 hh2 hy0 hy1 hBB hW1 hW2
  have hq0 : ∀ p, (since W3 p).cell? ⟨w.heap.size, 0, none⟩ = some (.int .i64 x) := fun p => cell_since (cell_row hr13 rfl) p
  have hq1 : ∀ p, (since W3 p).cell? ⟨w.heap.size, 1, none⟩ = some (.int .u8 3) := fun p => cell_since (cell_row hr13 rfl) p
  have hq2 : ∀ p, (since W3 p).cell? ⟨w.heap.size, 2, none⟩ = some (.slice Ag ng cg) := fun p => cell_since (cell_row hr13 rfl) p
  go_wp2_with fail
  refine region_tail 4 (by kernel_rfl) (by kernel_rfl) ?_
  simp only [List.take_succ_cons, List.take_zero, List.drop_succ_cons, List.drop_zero]
  repeat (first | go_big_quiet_step (fail) | quiet_step (fail))
  refine wpQuiet_nil ?_
  rintro W ⟨pw, hW⟩
  have hBW : Below W3.heap.size W3 W := by rw [hW]; exact since_below W3 pw
  have hrW := row_below hr23 hBW
  have hw0 : W.cell? ⟨w.heap.size + 1, 0, none⟩ = some (.int .i64 0) := cell_row hrW rfl
  have hw1 : W.cell? ⟨w.heap.size + 1, 1, none⟩ = some (.int .u8 0) := cell_row hrW rfl
  have hw2 : W.cell? ⟨w.heap.size + 1, 2, none⟩ = some (.slice none 0 0) := cell_row hrW rfl
  have hwf : ∀ j, W.frozen? ⟨w.heap.size + 1, j, none⟩ = false := fun j => frozen_of_row _ _ _ _ _ hrW
  have hBE := below_then hB03 hB03.size hBW
  clear hW hq0 hq1 hq2 hr13 hr23
  go_wp2_with fail
  refine bodyPost_ret (v := .tuple #[.int .i64 (-b), .agg #[.int .i64 x, .int .u8 3, .slice Ag ng cg]]) (by simp [results, Try.results84, go_sem, hw0, hw1, hw2]) rfl ?_
  exact meanN_left hBE (by have := HN.out.2; omega)

set_option maxHeartbeats 4000000 in
set_option maxRecDepth 100000 in
theorem meaning_xor3 (x a b : Int) (Ag : Option Addr) (ng cg : Nat) (v0 : Value) (w : World) (h : IntsAt w v0 [a, b]) (ha : -1000000 ≤ a ∧ a ≤ 1000000) (za : a ≠ 0) (hb : -1000000 ≤ b ∧ b ≤ 1000000) (zb : b ≠ 0)
    (g0 : (a == -1000000) = false)
    (g1 : (a == 1000000) = false)
    (g2 : (b == -1000000) = true) :
    Calls Try.prog 84 #[.agg #[.int .i64 x, .int .u8 3, .slice Ag ng cg], v0] w (MeanPost w x v0 (a) 3 [a, b]) := by
  obtain ⟨A, c0, e0, hlc, hcm⟩ := SlAt.form h
  replace e0 : v0 = .slice A 2 c0 := e0
  replace hlc : 2 ≤ c0 := hlc
  subst e0
  obtain ⟨bi, off, rfl, hx0, -⟩ := h.at_ 0 a rfl
  obtain ⟨_, _, e, hx1, -⟩ := h.at_ 1 b rfl
  cases e
  rw [Nat.add_zero] at hx0
  obtain ⟨ha1, ha2⟩ := ha
  have na : IntKind.i64.wrap (-a) = -a := IntWalk.i64_in _ (by omega)
  obtain ⟨hb1, hb2⟩ := hb
  have nb : IntKind.i64.wrap (-b) = -b := IntWalk.i64_in _ (by omega)
  obtain ⟨W1, hW1, -, -, hz1, hB1, hh1⟩ := new_block w #[.int .i64 x, .int .u8 3, .slice Ag ng cg] 70
  obtain ⟨W2, hW2, -, -, hz2, hB2, hh2⟩ := new_block W1 #[.int .i64 0, .int .u8 0, .slice none 0 0] 70
  rw [hz1] at hh2 hz2
  have hr1 := row_below hh1 hB2
  have hBB := below_then hB1 hB1.size hB2
  have hp0 : W2.cell? ⟨w.heap.size, 0, none⟩ = some (.int .i64 x) := cell_row hr1 rfl
  have hp1 : W2.cell? ⟨w.heap.size, 1, none⟩ = some (.int .u8 3) := cell_row hr1 rfl
  have hp2 : W2.cell? ⟨w.heap.size, 2, none⟩ = some (.slice Ag ng cg) := cell_row hr1 rfl
  have HZ := hid hz1
  have HZ2 := hid (row_lt hh2)
  have hy0 := fun p => cell_since (keeps_below hBB _ _ hx0) p
  have hy1 := fun p => cell_since (keeps_below hBB _ _ hx1) p
  have HH := hid h
  have HN := hid (And.intro za zb)
  clear hx0 hx1 h hB1 hB2 hh1 hz2 za zb
  go_enter Try.func84, Try.ntmps84
  go_wp2_with fail
  refine region_quiet (by kernel_rfl) (by kernel_rfl) ?_
  repeat (first | go_big_quiet_step (fail) | quiet_step (fail))
  refine wpQuiet_nil ?_
  rintro W3 ⟨p3, hW3⟩
  have hB3 : Below W2.heap.size W2 W3 := by rw [hW3]; exact since_below W2 p3
  have hr13 := row_below hr1 hB3
  have hr23 := row_below hh2 hB3
  have hB03 := below_then hBB hBB.size hB3
  clear hW3 hB3 hp0 hp1 hp2 hr1 hh2 hy0 hy1 hBB hW1 hW2
  have hq0 : ∀ p, (since W3 p).cell? ⟨w.heap.size, 0, none⟩ = some (.int .i64 x) := fun p => cell_since (cell_row hr13 rfl) p
  have hq1 : ∀ p, (since W3 p).cell? ⟨w.heap.size, 1, none⟩ = some (.int .u8 3) := fun p => cell_since (cell_row hr13 rfl) p
  have hq2 : ∀ p, (since W3 p).cell? ⟨w.heap.size, 2, none⟩ = some (.slice Ag ng cg) := fun p => cell_since (cell_row hr13 rfl) p
  go_wp2_with fail
  refine region_tail 3 (by kernel_rfl) (by kernel_rfl) ?_
  simp only [List.take_succ_cons, List.take_zero, List.drop_succ_cons, List.drop_zero]
  repeat (first | go_big_quiet_step (fail) | quiet_step (fail))
  refine wpQuiet_nil ?_
  rintro W ⟨pw, hW⟩
  have hBW : Below W3.heap.size W3 W := by rw [hW]; exact since_below W3 pw
  have hrW := row_below hr23 hBW
  have hw0 : W.cell? ⟨w.heap.size + 1, 0, none⟩ = some (.int .i64 0) := cell_row hrW rfl
  have hw1 : W.cell? ⟨w.heap.size + 1, 1, none⟩ = some (.int .u8 0) := cell_row hrW rfl
  have hw2 : W.cell? ⟨w.heap.size + 1, 2, none⟩ = some (.slice none 0 0) := cell_row hrW rfl
  have hwf : ∀ j, W.frozen? ⟨w.heap.size + 1, j, none⟩ = false := fun j => frozen_of_row _ _ _ _ _ hrW
  have hBE := below_then hB03 hB03.size hBW
  clear hW hq0 hq1 hq2 hr13 hr23
  go_wp2_with fail
  refine bodyPost_ret (v := .tuple #[.int .i64 (a), .agg #[.int .i64 x, .int .u8 3, .slice Ag ng cg]]) (by simp [results, Try.results84, go_sem, hw0, hw1, hw2]) rfl ?_
  exact meanN_left hBE (by have := HN.out.1; omega)

set_option maxHeartbeats 4000000 in
set_option maxRecDepth 100000 in
theorem meaning_xor4 (x a b : Int) (Ag : Option Addr) (ng cg : Nat) (v0 : Value) (w : World) (h : IntsAt w v0 [a, b]) (ha : -1000000 ≤ a ∧ a ≤ 1000000) (za : a ≠ 0) (hb : -1000000 ≤ b ∧ b ≤ 1000000) (zb : b ≠ 0)
    (g0 : (a == -1000000) = false)
    (g1 : (a == 1000000) = false)
    (g2 : (b == -1000000) = false)
    (g3 : (b == 1000000) = true) :
    Calls Try.prog 84 #[.agg #[.int .i64 x, .int .u8 3, .slice Ag ng cg], v0] w (MeanPost w x v0 (-a) 3 [a, b]) := by
  obtain ⟨A, c0, e0, hlc, hcm⟩ := SlAt.form h
  replace e0 : v0 = .slice A 2 c0 := e0
  replace hlc : 2 ≤ c0 := hlc
  subst e0
  obtain ⟨bi, off, rfl, hx0, -⟩ := h.at_ 0 a rfl
  obtain ⟨_, _, e, hx1, -⟩ := h.at_ 1 b rfl
  cases e
  rw [Nat.add_zero] at hx0
  obtain ⟨ha1, ha2⟩ := ha
  have na : IntKind.i64.wrap (-a) = -a := IntWalk.i64_in _ (by omega)
  obtain ⟨hb1, hb2⟩ := hb
  have nb : IntKind.i64.wrap (-b) = -b := IntWalk.i64_in _ (by omega)
  obtain ⟨W1, hW1, -, -, hz1, hB1, hh1⟩ := new_block w #[.int .i64 x, .int .u8 3, .slice Ag ng cg] 70
  obtain ⟨W2, hW2, -, -, hz2, hB2, hh2⟩ := new_block W1 #[.int .i64 0, .int .u8 0, .slice none 0 0] 70
  rw [hz1] at hh2 hz2
  have hr1 := row_below hh1 hB2
  have hBB := below_then hB1 hB1.size hB2
  have hp0 : W2.cell? ⟨w.heap.size, 0, none⟩ = some (.int .i64 x) := cell_row hr1 rfl
  have hp1 : W2.cell? ⟨w.heap.size, 1, none⟩ = some (.int .u8 3) := cell_row hr1 rfl
  have hp2 : W2.cell? ⟨w.heap.size, 2, none⟩ = some (.slice Ag ng cg) := cell_row hr1 rfl
  have HZ := hid hz1
  have HZ2 := hid (row_lt hh2)
  have hy0 := fun p => cell_since (keeps_below hBB _ _ hx0) p
  have hy1 := fun p => cell_since (keeps_below hBB _ _ hx1) p
  have HH := hid h
  have HN := hid (And.intro za zb)
  clear hx0 hx1 h hB1 hB2 hh1 hz2 za zb
  go_enter Try.func84, Try.ntmps84
  go_wp2_with fail
  refine region_quiet (by kernel_rfl) (by kernel_rfl) ?_
  repeat (first | go_big_quiet_step (fail) | quiet_step (fail))
  refine wpQuiet_nil ?_
  rintro W3 ⟨p3, hW3⟩
  have hB3 : Below W2.heap.size W2 W3 := by rw [hW3]; exact since_below W2 p3
  have hr13 := row_below hr1 hB3
  have hr23 := row_below hh2 hB3
  have hB03 := below_then hBB hBB.size hB3
  clear hW3 hB3 hp0 hp1 hp2 hr1 hh2 hy0 hy1 hBB hW1 hW2
  have hq0 : ∀ p, (since W3 p).cell? ⟨w.heap.size, 0, none⟩ = some (.int .i64 x) := fun p => cell_since (cell_row hr13 rfl) p
  have hq1 : ∀ p, (since W3 p).cell? ⟨w.heap.size, 1, none⟩ = some (.int .u8 3) := fun p => cell_since (cell_row hr13 rfl) p
  have hq2 : ∀ p, (since W3 p).cell? ⟨w.heap.size, 2, none⟩ = some (.slice Ag ng cg) := fun p => cell_since (cell_row hr13 rfl) p
  go_wp2_with fail
  refine region_tail 4 (by kernel_rfl) (by kernel_rfl) ?_
  simp only [List.take_succ_cons, List.take_zero, List.drop_succ_cons, List.drop_zero]
  repeat (first | go_big_quiet_step (fail) | quiet_step (fail))
  refine wpQuiet_nil ?_
  rintro W ⟨pw, hW⟩
  have hBW : Below W3.heap.size W3 W := by rw [hW]; exact since_below W3 pw
  have hrW := row_below hr23 hBW
  have hw0 : W.cell? ⟨w.heap.size + 1, 0, none⟩ = some (.int .i64 0) := cell_row hrW rfl
  have hw1 : W.cell? ⟨w.heap.size + 1, 1, none⟩ = some (.int .u8 0) := cell_row hrW rfl
  have hw2 : W.cell? ⟨w.heap.size + 1, 2, none⟩ = some (.slice none 0 0) := cell_row hrW rfl
  have hwf : ∀ j, W.frozen? ⟨w.heap.size + 1, j, none⟩ = false := fun j => frozen_of_row _ _ _ _ _ hrW
  have hBE := below_then hB03 hB03.size hBW
  clear hW hq0 hq1 hq2 hr13 hr23
  go_wp2_with fail
  refine bodyPost_ret (v := .tuple #[.int .i64 (-a), .agg #[.int .i64 x, .int .u8 3, .slice Ag ng cg]]) (by simp [results, Try.results84, go_sem, hw0, hw1, hw2]) rfl ?_
  exact meanN_left hBE (by have := HN.out.1; omega)

set_option maxHeartbeats 4000000 in
set_option maxRecDepth 100000 in
theorem meaning_xor5 (x a b : Int) (Ag : Option Addr) (ng cg : Nat) (v0 : Value) (w : World) (h : IntsAt w v0 [a, b]) (ha : -1000000 ≤ a ∧ a ≤ 1000000) (za : a ≠ 0) (hb : -1000000 ≤ b ∧ b ≤ 1000000) (zb : b ≠ 0)
    (g0 : (a == -1000000) = false)
    (g1 : (a == 1000000) = false)
    (g2 : (b == -1000000) = false)
    (g3 : (b == 1000000) = false)
    (g4 : (a == b) = true) :
    Calls Try.prog 84 #[.agg #[.int .i64 x, .int .u8 3, .slice Ag ng cg], v0] w (MeanPost w x v0 (-1000000) 3 [a, b]) := by
  obtain ⟨A, c0, e0, hlc, hcm⟩ := SlAt.form h
  replace e0 : v0 = .slice A 2 c0 := e0
  replace hlc : 2 ≤ c0 := hlc
  subst e0
  obtain ⟨bi, off, rfl, hx0, -⟩ := h.at_ 0 a rfl
  obtain ⟨_, _, e, hx1, -⟩ := h.at_ 1 b rfl
  cases e
  rw [Nat.add_zero] at hx0
  obtain ⟨ha1, ha2⟩ := ha
  have na : IntKind.i64.wrap (-a) = -a := IntWalk.i64_in _ (by omega)
  obtain ⟨hb1, hb2⟩ := hb
  have nb : IntKind.i64.wrap (-b) = -b := IntWalk.i64_in _ (by omega)
  obtain ⟨W1, hW1, -, -, hz1, hB1, hh1⟩ := new_block w #[.int .i64 x, .int .u8 3, .slice Ag ng cg] 70
  obtain ⟨W2, hW2, -, -, hz2, hB2, hh2⟩ := new_block W1 #[.int .i64 0, .int .u8 0, .slice none 0 0] 70
  rw [hz1] at hh2 hz2
  have hr1 := row_below hh1 hB2
  have hBB := below_then hB1 hB1.size hB2
  have hp0 : W2.cell? ⟨w.heap.size, 0, none⟩ = some (.int .i64 x) := cell_row hr1 rfl
  have hp1 : W2.cell? ⟨w.heap.size, 1, none⟩ = some (.int .u8 3) := cell_row hr1 rfl
  have hp2 : W2.cell? ⟨w.heap.size, 2, none⟩ = some (.slice Ag ng cg) := cell_row hr1 rfl
  have HZ := hid hz1
  have HZ2 := hid (row_lt hh2)
  have hy0 := fun p => cell_since (keeps_below hBB _ _ hx0) p
  have hy1 := fun p => cell_since (keeps_below hBB _ _ hx1) p
  have HH := hid h
  have HN := hid (And.intro za zb)
  clear hx0 hx1 h hB1 hB2 hh1 hz2 za zb
  go_enter Try.func84, Try.ntmps84
  go_wp2_with fail
  refine region_quiet (by kernel_rfl) (by kernel_rfl) ?_
  repeat (first | go_big_quiet_step (fail) | quiet_step (fail))
  refine wpQuiet_nil ?_
  rintro W3 ⟨p3, hW3⟩
  have hB3 : Below W2.heap.size W2 W3 := by rw [hW3]; exact since_below W2 p3
  have hr13 := row_below hr1 hB3
  have hr23 := row_below hh2 hB3
  have hB03 := below_then hBB hBB.size hB3
  clear hW3 hB3 hp0 hp1 hp2 hr1 hh2 hy0 hy1 hBB hW1 hW2
  have hq0 : ∀ p, (since W3 p).cell? ⟨w.heap.size, 0, none⟩ = some (.int .i64 x) := fun p => cell_since (cell_row hr13 rfl) p
  have hq1 : ∀ p, (since W3 p).cell? ⟨w.heap.size, 1, none⟩ = some (.int .u8 3) := fun p => cell_since (cell_row hr13 rfl) p
  have hq2 : ∀ p, (since W3 p).cell? ⟨w.heap.size, 2, none⟩ = some (.slice Ag ng cg) := fun p => cell_since (cell_row hr13 rfl) p
  go_wp2_with fail
  refine region_tail 2 (by kernel_rfl) (by kernel_rfl) ?_
  simp only [List.take_succ_cons, List.take_zero, List.drop_succ_cons, List.drop_zero]
  repeat (first | go_big_quiet_step (fail) | quiet_step (fail))
  refine wpQuiet_nil ?_
  rintro W ⟨pw, hW⟩
  have hBW : Below W3.heap.size W3 W := by rw [hW]; exact since_below W3 pw
  have hrW := row_below hr23 hBW
  have hw0 : W.cell? ⟨w.heap.size + 1, 0, none⟩ = some (.int .i64 0) := cell_row hrW rfl
  have hw1 : W.cell? ⟨w.heap.size + 1, 1, none⟩ = some (.int .u8 0) := cell_row hrW rfl
  have hw2 : W.cell? ⟨w.heap.size + 1, 2, none⟩ = some (.slice none 0 0) := cell_row hrW rfl
  have hwf : ∀ j, W.frozen? ⟨w.heap.size + 1, j, none⟩ = false := fun j => frozen_of_row _ _ _ _ _ hrW
  have hBE := below_then hB03 hB03.size hBW
  clear hW hq0 hq1 hq2 hr13 hr23
  go_wp2_with fail
  refine bodyPost_ret (v := .tuple #[.int .i64 (-1000000), .agg #[.int .i64 x, .int .u8 3, .slice Ag ng cg]]) (by simp [results, Try.results84, go_sem, hw0, hw1, hw2]) rfl ?_
  exact meanN_left hBE (by omega)

set_option maxHeartbeats 4000000 in
set_option maxRecDepth 100000 in
theorem meaning_xor6 (x a b : Int) (Ag : Option Addr) (ng cg : Nat) (v0 : Value) (w : World) (h : IntsAt w v0 [a, b]) (ha : -1000000 ≤ a ∧ a ≤ 1000000) (za : a ≠ 0) (hb : -1000000 ≤ b ∧ b ≤ 1000000) (zb : b ≠ 0)
    (g0 : (a == -1000000) = false)
    (g1 : (a == 1000000) = false)
    (g2 : (b == -1000000) = false)
    (g3 : (b == 1000000) = false)
    (g4 : (a == b) = false)
    (g5 : (a == -b) = true) :
    Calls Try.prog 84 #[.agg #[.int .i64 x, .int .u8 3, .slice Ag ng cg], v0] w (MeanPost w x v0 (1000000) 3 [a, b]) := by
  obtain ⟨A, c0, e0, hlc, hcm⟩ := SlAt.form h
  replace e0 : v0 = .slice A 2 c0 := e0
  replace hlc : 2 ≤ c0 := hlc
  subst e0
  obtain ⟨bi, off, rfl, hx0, -⟩ := h.at_ 0 a rfl
  obtain ⟨_, _, e, hx1, -⟩ := h.at_ 1 b rfl
  cases e
  rw [Nat.add_zero] at hx0
  obtain ⟨ha1, ha2⟩ := ha
  have na : IntKind.i64.wrap (-a) = -a := IntWalk.i64_in _ (by omega)
  obtain ⟨hb1, hb2⟩ := hb
  have nb : IntKind.i64.wrap (-b) = -b := IntWalk.i64_in _ (by omega)
  obtain ⟨W1, hW1, -, -, hz1, hB1, hh1⟩ := new_block w #[.int .i64 x, .int .u8 3, .slice Ag ng cg] 70
  obtain ⟨W2, hW2, -, -, hz2, hB2, hh2⟩ := new_block W1 #[.int .i64 0, .int .u8 0, .slice none 0 0] 70
  rw [hz1] at hh2 hz2
  have hr1 := row_below hh1 hB2
  have hBB := below_then hB1 hB1.size hB2
  have hp0 : W2.cell? ⟨w.heap.size, 0, none⟩ = some (.int .i64 x) := cell_row hr1 rfl
  have hp1 : W2.cell? ⟨w.heap.size, 1, none⟩ = some (.int .u8 3) := cell_row hr1 rfl
  have hp2 : W2.cell? ⟨w.heap.size, 2, none⟩ = some (.slice Ag ng cg) := cell_row hr1 rfl
  have HZ := hid hz1
  have HZ2 := hid (row_lt hh2)
  have hy0 := fun p => cell_since (keeps_below hBB _ _ hx0) p
  have hy1 := fun p => cell_since (keeps_below hBB _ _ hx1) p
  have HH := hid h
  have HN := hid (And.intro za zb)
  clear hx0 hx1 h hB1 hB2 hh1 hz2 za zb
  go_enter Try.func84, Try.ntmps84
  go_wp2_with fail
  refine region_quiet (by kernel_rfl) (by kernel_rfl) ?_
  repeat (first | go_big_quiet_step (fail) | quiet_step (fail))
  refine wpQuiet_nil ?_
  rintro W3 ⟨p3, hW3⟩
  have hB3 : Below W2.heap.size W2 W3 := by rw [hW3]; exact since_below W2 p3
  have hr13 := row_below hr1 hB3
  have hr23 := row_below hh2 hB3
  have hB03 := below_then hBB hBB.size hB3
  clear hW3 hB3 hp0 hp1 hp2 hr1 hh2 hy0 hy1 hBB hW1 hW2
  have hq0 : ∀ p, (since W3 p).cell? ⟨w.heap.size, 0, none⟩ = some (.int .i64 x) := fun p => cell_since (cell_row hr13 rfl) p
  have hq1 : ∀ p, (since W3 p).cell? ⟨w.heap.size, 1, none⟩ = some (.int .u8 3) := fun p => cell_since (cell_row hr13 rfl) p
  have hq2 : ∀ p, (since W3 p).cell? ⟨w.heap.size, 2, none⟩ = some (.slice Ag ng cg) := fun p => cell_since (cell_row hr13 rfl) p
  go_wp2_with fail
  refine region_tail 2 (by kernel_rfl) (by kernel_rfl) ?_
  simp only [List.take_succ_cons, List.take_zero, List.drop_succ_cons, List.drop_zero]
  repeat (first | go_big_quiet_step (fail) | quiet_step (fail))
  refine wpQuiet_nil ?_
  rintro W ⟨pw, hW⟩
  have hBW : Below W3.heap.size W3 W := by rw [hW]; exact since_below W3 pw
  have hrW := row_below hr23 hBW
  have hw0 : W.cell? ⟨w.heap.size + 1, 0, none⟩ = some (.int .i64 0) := cell_row hrW rfl
  have hw1 : W.cell? ⟨w.heap.size + 1, 1, none⟩ = some (.int .u8 0) := cell_row hrW rfl
  have hw2 : W.cell? ⟨w.heap.size + 1, 2, none⟩ = some (.slice none 0 0) := cell_row hrW rfl
  have hwf : ∀ j, W.frozen? ⟨w.heap.size + 1, j, none⟩ = false := fun j => frozen_of_row _ _ _ _ _ hrW
  have hBE := below_then hB03 hB03.size hBW
  clear hW hq0 hq1 hq2 hr13 hr23
  go_wp2_with fail
  refine bodyPost_ret (v := .tuple #[.int .i64 (1000000), .agg #[.int .i64 x, .int .u8 3, .slice Ag ng cg]]) (by simp [results, Try.results84, go_sem, hw0, hw1, hw2]) rfl ?_
  exact meanN_left hBE (by omega)

set_option maxHeartbeats 4000000 in
set_option maxRecDepth 100000 in
theorem meaning_xor0 (x a b : Int) (Ag : Option Addr) (ng cg : Nat) (v0 : Value) (w : World) (h : IntsAt w v0 [a, b]) (ha : -1000000 ≤ a ∧ a ≤ 1000000) (za : a ≠ 0) (hb : -1000000 ≤ b ∧ b ≤ 1000000) (zb : b ≠ 0)
    (g0 : (a == -1000000) = false)
    (g1 : (a == 1000000) = false)
    (g2 : (b == -1000000) = false)
    (g3 : (b == 1000000) = false)
    (g4 : (a == b) = false)
    (g5 : (a == -b) = false) :
    Calls Try.prog 84 #[.agg #[.int .i64 x, .int .u8 3, .slice Ag ng cg], v0] w (MeanPost w x v0 0 3 [a, b]) := by
  obtain ⟨A, c0, e0, hlc, hcm⟩ := SlAt.form h
  replace e0 : v0 = .slice A 2 c0 := e0
  replace hlc : 2 ≤ c0 := hlc
  subst e0
  obtain ⟨bi, off, rfl, hx0, -⟩ := h.at_ 0 a rfl
  obtain ⟨_, _, e, hx1, -⟩ := h.at_ 1 b rfl
  cases e
  rw [Nat.add_zero] at hx0
  obtain ⟨ha1, ha2⟩ := ha
  have na : IntKind.i64.wrap (-a) = -a := IntWalk.i64_in _ (by omega)
  obtain ⟨hb1, hb2⟩ := hb
  have nb : IntKind.i64.wrap (-b) = -b := IntWalk.i64_in _ (by omega)
  obtain ⟨W1, hW1, -, -, hz1, hB1, hh1⟩ := new_block w #[.int .i64 x, .int .u8 3, .slice Ag ng cg] 70
  obtain ⟨W2, hW2, -, -, hz2, hB2, hh2⟩ := new_block W1 #[.int .i64 0, .int .u8 0, .slice none 0 0] 70
  rw [hz1] at hh2 hz2
  have hr1 := row_below hh1 hB2
  have hBB := below_then hB1 hB1.size hB2
  have hp0 : W2.cell? ⟨w.heap.size, 0, none⟩ = some (.int .i64 x) := cell_row hr1 rfl
  have hp1 : W2.cell? ⟨w.heap.size, 1, none⟩ = some (.int .u8 3) := cell_row hr1 rfl
  have hp2 : W2.cell? ⟨w.heap.size, 2, none⟩ = some (.slice Ag ng cg) := cell_row hr1 rfl
  have HZ := hid hz1
  have HZ2 := hid (row_lt hh2)
  have hy0 := fun p => cell_since (keeps_below hBB _ _ hx0) p
  have hy1 := fun p => cell_since (keeps_below hBB _ _ hx1) p
  have HH := hid h
  have HN := hid (And.intro za zb)
  clear hx0 hx1 h hB1 hB2 hh1 hz2 za zb
  go_enter Try.func84, Try.ntmps84
  go_wp2_with fail
  refine region_quiet (by kernel_rfl) (by kernel_rfl) ?_
  repeat (first | go_big_quiet_step (fail) | quiet_step (fail))
  refine wpQuiet_nil ?_
  rintro W3 ⟨p3, hW3⟩
  have hB3 : Below W2.heap.size W2 W3 := by rw [hW3]; exact since_below W2 p3
  have hr13 := row_below hr1 hB3
  have hr23 := row_below hh2 hB3
  have hB03 := below_then hBB hBB.size hB3
  clear hW3 hB3 hp0 hp1 hp2 hr1 hh2 hy0 hy1 hBB hW1 hW2
  have hq0 : ∀ p, (since W3 p).cell? ⟨w.heap.size, 0, none⟩ = some (.int .i64 x) := fun p => cell_since (cell_row hr13 rfl) p
  have hq1 : ∀ p, (since W3 p).cell? ⟨w.heap.size, 1, none⟩ = some (.int .u8 3) := fun p => cell_since (cell_row hr13 rfl) p
  have hq2 : ∀ p, (since W3 p).cell? ⟨w.heap.size, 2, none⟩ = some (.slice Ag ng cg) := fun p => cell_since (cell_row hr13 rfl) p
  go_wp2_with fail
  refine region_tail 6 (by kernel_rfl) (by kernel_rfl) ?_
  simp only [List.take_succ_cons, List.take_zero, List.drop_succ_cons, List.drop_zero]
  repeat (first | go_big_quiet_step (fail) | quiet_step (fail))
  refine wpQuiet_nil ?_
  rintro W ⟨pw, hW⟩
  have hBW : Below W3.heap.size W3 W := by rw [hW]; exact since_below W3 pw
  have hrW := row_below hr23 hBW
  have hw0 : W.cell? ⟨w.heap.size + 1, 0, none⟩ = some (.int .i64 0) := cell_row hrW rfl
  have hw1 : W.cell? ⟨w.heap.size + 1, 1, none⟩ = some (.int .u8 0) := cell_row hrW rfl
  have hw2 : W.cell? ⟨w.heap.size + 1, 2, none⟩ = some (.slice none 0 0) := cell_row hrW rfl
  have hwf : ∀ j, W.frozen? ⟨w.heap.size + 1, j, none⟩ = false := fun j => frozen_of_row _ _ _ _ _ hrW
  have hBE := below_then hB03 hB03.size hBW
  clear hW hq0 hq1 hq2 hr13 hr23
  go_wp2_with fail
  refine bodyPost_ret (v := .tuple #[.int .i64 (0), .agg #[.int .i64 x, .int .u8 3, .slice (some ⟨bi, off, none⟩) 2 c0]]) (by simp [results, Try.results84, go_sem, hw0, hw1, hw2]) rfl ?_
  exact meanN_stay HH.out hBE

set_option maxHeartbeats 4000000 in
set_option maxRecDepth 100000 in
theorem meaning_ite1 (x c a b : Int) (Ag : Option Addr) (ng cg : Nat) (v0 : Value) (w : World) (h : IntsAt w v0 [c, a, b]) (hc : -1000000 ≤ c ∧ c ≤ 1000000) (zc : c ≠ 0) (ha : -1000000 ≤ a ∧ a ≤ 1000000) (za : a ≠ 0) (hb : -1000000 ≤ b ∧ b ≤ 1000000) (zb : b ≠ 0)
    (g0 : (c == 1000000) = true) :
    Calls Try.prog 84 #[.agg #[.int .i64 x, .int .u8 4, .slice Ag ng cg], v0] w (MeanPost w x v0 (a) 4 [c, a, b]) := by
  obtain ⟨A, c0, e0, hlc, hcm⟩ := SlAt.form h
  replace e0 : v0 = .slice A 3 c0 := e0
  replace hlc : 3 ≤ c0 := hlc
  subst e0
  obtain ⟨bi, off, rfl, hx0, -⟩ := h.at_ 0 c rfl
  obtain ⟨_, _, e, hx1, -⟩ := h.at_ 1 a rfl
  cases e
  obtain ⟨_, _, e, hx2, -⟩ := h.at_ 2 b rfl
  cases e
  rw [Nat.add_zero] at hx0
  obtain ⟨hc1, hc2⟩ := hc
  have nc : IntKind.i64.wrap (-c) = -c := IntWalk.i64_in _ (by omega)
  obtain ⟨ha1, ha2⟩ := ha
  have na : IntKind.i64.wrap (-a) = -a := IntWalk.i64_in _ (by omega)
  obtain ⟨hb1, hb2⟩ := hb
  have nb : IntKind.i64.wrap (-b) = -b := IntWalk.i64_in _ (by omega)
  obtain ⟨W1, hW1, -, -, hz1, hB1, hh1⟩ := new_block w #[.int .i64 x, .int .u8 4, .slice Ag ng cg] 70
  obtain ⟨W2, hW2, -, -, hz2, hB2, hh2⟩ := new_block W1 #[.int .i64 0, .int .u8 0, .slice none 0 0] 70
  rw [hz1] at hh2 hz2
  have hr1 := row_below hh1 hB2
  have hBB := below_then hB1 hB1.size hB2
  have hp0 : W2.cell? ⟨w.heap.size, 0, none⟩ = some (.int .i64 x) := cell_row hr1 rfl
  have hp1 : W2.cell? ⟨w.heap.size, 1, none⟩ = some (.int .u8 4) := cell_row hr1 rfl
  have hp2 : W2.cell? ⟨w.heap.size, 2, none⟩ = some (.slice Ag ng cg) := cell_row hr1 rfl
  have HZ := hid hz1
  have HZ2 := hid (row_lt hh2)
  have hy0 := fun p => cell_since (keeps_below hBB _ _ hx0) p
  have hy1 := fun p => cell_since (keeps_below hBB _ _ hx1) p
  have hy2 := fun p => cell_since (keeps_below hBB _ _ hx2) p
  have HH := hid h
  have HN := hid (And.intro za zb)
  clear hx0 hx1 hx2 h hB1 hB2 hh1 hz2 zc za zb
  go_enter Try.func84, Try.ntmps84
  go_wp2_with fail
  refine region_quiet (by kernel_rfl) (by kernel_rfl) ?_
  repeat (first | go_big_quiet_step (fail) | quiet_step (fail))
  refine wpQuiet_nil ?_
  rintro W3 ⟨p3, hW3⟩
  have hB3 : Below W2.heap.size W2 W3 := by rw [hW3]; exact since_below W2 p3
  have hr13 := row_below hr1 hB3
  have hr23 := row_below hh2 hB3
  have hB03 := below_then hBB hBB.size hB3
  clear hW3 hB3 hp0 hp1 hp2 hr1 hh2 hy0 hy1 hy2 hBB hW1 hW2
  have hq0 : ∀ p, (since W3 p).cell? ⟨w.heap.size, 0, none⟩ = some (.int .i64 x) := fun p => cell_since (cell_row hr13 rfl) p
  have hq1 : ∀ p, (since W3 p).cell? ⟨w.heap.size, 1, none⟩ = some (.int .u8 4) := fun p => cell_since (cell_row hr13 rfl) p
  have hq2 : ∀ p, (since W3 p).cell? ⟨w.heap.size, 2, none⟩ = some (.slice Ag ng cg) := fun p => cell_since (cell_row hr13 rfl) p
  go_wp2_with fail
  refine region_tail 3 (by kernel_rfl) (by kernel_rfl) ?_
  simp only [List.take_succ_cons, List.take_zero, List.drop_succ_cons, List.drop_zero]
  repeat (first | go_big_quiet_step (fail) | quiet_step (fail))
  refine wpQuiet_nil ?_
  rintro W ⟨pw, hW⟩
  have hBW : Below W3.heap.size W3 W := by rw [hW]; exact since_below W3 pw
  have hrW := row_below hr23 hBW
  have hw0 : W.cell? ⟨w.heap.size + 1, 0, none⟩ = some (.int .i64 0) := cell_row hrW rfl
  have hw1 : W.cell? ⟨w.heap.size + 1, 1, none⟩ = some (.int .u8 0) := cell_row hrW rfl
  have hw2 : W.cell? ⟨w.heap.size + 1, 2, none⟩ = some (.slice none 0 0) := cell_row hrW rfl
  have hwf : ∀ j, W.frozen? ⟨w.heap.size + 1, j, none⟩ = false := fun j => frozen_of_row _ _ _ _ _ hrW
  have hBE := below_then hB03 hB03.size hBW
  clear hW hq0 hq1 hq2 hr13 hr23
  go_wp2_with fail
  refine bodyPost_ret (v := .tuple #[.int .i64 (a), .agg #[.int .i64 x, .int .u8 4, .slice Ag ng cg]]) (by simp [results, Try.results84, go_sem, hw0, hw1, hw2]) rfl ?_
  exact meanN_left hBE (by have := HN.out.1; omega)

set_option maxHeartbeats 4000000 in
set_option maxRecDepth 100000 in
theorem meaning_ite2 (x c a b : Int) (Ag : Option Addr) (ng cg : Nat) (v0 : Value) (w : World) (h : IntsAt w v0 [c, a, b]) (hc : -1000000 ≤ c ∧ c ≤ 1000000) (zc : c ≠ 0) (ha : -1000000 ≤ a ∧ a ≤ 1000000) (za : a ≠ 0) (hb : -1000000 ≤ b ∧ b ≤ 1000000) (zb : b ≠ 0)
    (g0 : (c == 1000000) = false)
    (g1 : (c == -1000000) = true) :
    Calls Try.prog 84 #[.agg #[.int .i64 x, .int .u8 4, .slice Ag ng cg], v0] w (MeanPost w x v0 (b) 4 [c, a, b]) := by
  obtain ⟨A, c0, e0, hlc, hcm⟩ := SlAt.form h
  replace e0 : v0 = .slice A 3 c0 := e0
  replace hlc : 3 ≤ c0 := hlc
  subst e0
  obtain ⟨bi, off, rfl, hx0, -⟩ := h.at_ 0 c rfl
  obtain ⟨_, _, e, hx1, -⟩ := h.at_ 1 a rfl
  cases e
  obtain ⟨_, _, e, hx2, -⟩ := h.at_ 2 b rfl
  cases e
  rw [Nat.add_zero] at hx0
  obtain ⟨hc1, hc2⟩ := hc
  have nc : IntKind.i64.wrap (-c) = -c := IntWalk.i64_in _ (by omega)
  obtain ⟨ha1, ha2⟩ := ha
  have na : IntKind.i64.wrap (-a) = -a := IntWalk.i64_in _ (by omega)
  obtain ⟨hb1, hb2⟩ := hb
  have nb : IntKind.i64.wrap (-b) = -b := IntWalk.i64_in _ (by omega)
  obtain ⟨W1, hW1, -, -, hz1, hB1, hh1⟩ := new_block w #[.int .i64 x, .int .u8 4, .slice Ag ng cg] 70
  obtain ⟨W2, hW2, -, -, hz2, hB2, hh2⟩ := new_block W1 #[.int .i64 0, .int .u8 0, .slice none 0 0] 70
  rw [hz1] at hh2 hz2
  have hr1 := row_below hh1 hB2
  have hBB := below_then hB1 hB1.size hB2
  have hp0 : W2.cell? ⟨w.heap.size, 0, none⟩ = some (.int .i64 x) := cell_row hr1 rfl
  have hp1 : W2.cell? ⟨w.heap.size, 1, none⟩ = some (.int .u8 4) := cell_row hr1 rfl
  have hp2 : W2.cell? ⟨w.heap.size, 2, none⟩ = some (.slice Ag ng cg) := cell_row hr1 rfl
  have HZ := hid hz1
  have HZ2 := hid (row_lt hh2)
  have hy0 := fun p => cell_since (keeps_below hBB _ _ hx0) p
  have hy1 := fun p => cell_since (keeps_below hBB _ _ hx1) p
  have hy2 := fun p => cell_since (keeps_below hBB _ _ hx2) p
  have HH := hid h
  have HN := hid (And.intro za zb)
  clear hx0 hx1 hx2 h hB1 hB2 hh1 hz2 zc za zb
  go_enter Try.func84, Try.ntmps84
  go_wp2_with fail
  refine region_quiet (by kernel_rfl) (by kernel_rfl) ?_
  repeat (first | go_big_quiet_step (fail) | quiet_step (fail))
  refine wpQuiet_nil ?_
  rintro W3 ⟨p3, hW3⟩
  have hB3 : Below W2.heap.size W2 W3 := by rw [hW3]; exact since_below W2 p3
  have hr13 := row_below hr1 hB3
  have hr23 := row_below hh2 hB3
  have hB03 := below_then hBB hBB.size hB3
  clear hW3 hB3 hp0 hp1 hp2 hr1 hh2 hy0 hy1 hy2 hBB hW1 hW2
  have hq0 : ∀ p, (since W3 p).cell? ⟨w.heap.size, 0, none⟩ = some (.int .i64 x) := fun p => cell_since (cell_row hr13 rfl) p
  have hq1 : ∀ p, (since W3 p).cell? ⟨w.heap.size, 1, none⟩ = some (.int .u8 4) := fun p => cell_since (cell_row hr13 rfl) p
  have hq2 : ∀ p, (since W3 p).cell? ⟨w.heap.size, 2, none⟩ = some (.slice Ag ng cg) := fun p => cell_since (cell_row hr13 rfl) p
  go_wp2_with fail
  refine region_tail 3 (by kernel_rfl) (by kernel_rfl) ?_
  simp only [List.take_succ_cons, List.take_zero, List.drop_succ_cons, List.drop_zero]
  repeat (first | go_big_quiet_step (fail) | quiet_step (fail))
  refine wpQuiet_nil ?_
  rintro W ⟨pw, hW⟩
  have hBW : Below W3.heap.size W3 W := by rw [hW]; exact since_below W3 pw
  have hrW := row_below hr23 hBW
  have hw0 : W.cell? ⟨w.heap.size + 1, 0, none⟩ = some (.int .i64 0) := cell_row hrW rfl
  have hw1 : W.cell? ⟨w.heap.size + 1, 1, none⟩ = some (.int .u8 0) := cell_row hrW rfl
  have hw2 : W.cell? ⟨w.heap.size + 1, 2, none⟩ = some (.slice none 0 0) := cell_row hrW rfl
  have hwf : ∀ j, W.frozen? ⟨w.heap.size + 1, j, none⟩ = false := fun j => frozen_of_row _ _ _ _ _ hrW
  have hBE := below_then hB03 hB03.size hBW
  clear hW hq0 hq1 hq2 hr13 hr23
  go_wp2_with fail
  refine bodyPost_ret (v := .tuple #[.int .i64 (b), .agg #[.int .i64 x, .int .u8 4, .slice Ag ng cg]]) (by simp [results, Try.results84, go_sem, hw0, hw1, hw2]) rfl ?_
  exact meanN_left hBE (by have := HN.out.2; omega)

set_option maxHeartbeats 4000000 in
set_option maxRecDepth 100000 in
theorem meaning_ite3 (x c a b : Int) (Ag : Option Addr) (ng cg : Nat) (v0 : Value) (w : World) (h : IntsAt w v0 [c, a, b]) (hc : -1000000 ≤ c ∧ c ≤ 1000000) (zc : c ≠ 0) (ha : -1000000 ≤ a ∧ a ≤ 1000000) (za : a ≠ 0) (hb : -1000000 ≤ b ∧ b ≤ 1000000) (zb : b ≠ 0)
    (g0 : (c == 1000000) = false)
    (g1 : (c == -1000000) = false)
    (g2 : (a == b) = true) :
    Calls Try.prog 84 #[.agg #[.int .i64 x, .int .u8 4, .slice Ag ng cg], v0] w (MeanPost w x v0 (a) 4 [c, a, b]) := by
  obtain ⟨A, c0, e0, hlc, hcm⟩ := SlAt.form h
  replace e0 : v0 = .slice A 3 c0 := e0
  replace hlc : 3 ≤ c0 := hlc
  subst e0
  obtain ⟨bi, off, rfl, hx0, -⟩ := h.at_ 0 c rfl
  obtain ⟨_, _, e, hx1, -⟩ := h.at_ 1 a rfl
  cases e
  obtain ⟨_, _, e, hx2, -⟩ := h.at_ 2 b rfl
  cases e
  rw [Nat.add_zero] at hx0
  obtain ⟨hc1, hc2⟩ := hc
  have nc : IntKind.i64.wrap (-c) = -c := IntWalk.i64_in _ (by omega)
  obtain ⟨ha1, ha2⟩ := ha
  have na : IntKind.i64.wrap (-a) = -a := IntWalk.i64_in _ (by omega)
  obtain ⟨hb1, hb2⟩ := hb
  have nb : IntKind.i64.wrap (-b) = -b := IntWalk.i64_in _ (by omega)
  obtain ⟨W1, hW1, -, -, hz1, hB1, hh1⟩ := new_block w #[.int .i64 x, .int .u8 4, .slice Ag ng cg] 70
  obtain ⟨W2, hW2, -, -, hz2, hB2, hh2⟩ := new_block W1 #[.int .i64 0, .int .u8 0, .slice none 0 0] 70
  rw [hz1] at hh2 hz2
  have hr1 := row_below hh1 hB2
  have hBB := below_then hB1 hB1.size hB2
  have hp0 : W2.cell? ⟨w.heap.size, 0, none⟩ = some (.int .i64 x) := cell_row hr1 rfl
  have hp1 : W2.cell? ⟨w.heap.size, 1, none⟩ = some (.int .u8 4) := cell_row hr1 rfl
  have hp2 : W2.cell? ⟨w.heap.size, 2, none⟩ = some (.slice Ag ng cg) := cell_row hr1 rfl
  have HZ := hid hz1
  have HZ2 := hid (row_lt hh2)
  have hy0 := fun p => cell_since (keeps_below hBB _ _ hx0) p
  have hy1 := fun p => cell_since (keeps_below hBB _ _ hx1) p
  have hy2 := fun p => cell_since (keeps_below hBB _ _ hx2) p
  have HH := hid h
  have HN := hid (And.intro za zb)
  clear hx0 hx1 hx2 h hB1 hB2 hh1 hz2 zc za zb
  go_enter Try.func84, Try.ntmps84
  go_wp2_with fail
  refine region_quiet (by kernel_rfl) (by kernel_rfl) ?_
  repeat (first | go_big_quiet_step (fail) | quiet_step (fail))
  refine wpQuiet_nil ?_
  rintro W3 ⟨p3, hW3⟩
  have hB3 : Below W2.heap.size W2 W3 := by rw [hW3]; exact since_below W2 p3
  have hr13 := row_below hr1 hB3
  have hr23 := row_below hh2 hB3
  have hB03 := below_then hBB hBB.size hB3
  clear hW3 hB3 hp0 hp1 hp2 hr1 hh2 hy0 hy1 hy2 hBB hW1 hW2
  have hq0 : ∀ p, (since W3 p).cell? ⟨w.heap.size, 0, none⟩ = some (.int .i64 x) := fun p => cell_since (cell_row hr13 rfl) p
  have hq1 : ∀ p, (since W3 p).cell? ⟨w.heap.size, 1, none⟩ = some (.int .u8 4) := fun p => cell_since (cell_row hr13 rfl) p
  have hq2 : ∀ p, (since W3 p).cell? ⟨w.heap.size, 2, none⟩ = some (.slice Ag ng cg) := fun p => cell_since (cell_row hr13 rfl) p
  go_wp2_with fail
  refine region_tail 3 (by kernel_rfl) (by kernel_rfl) ?_
  simp only [List.take_succ_cons, List.take_zero, List.drop_succ_cons, List.drop_zero]
  repeat (first | go_big_quiet_step (fail) | quiet_step (fail))
  refine wpQuiet_nil ?_
  rintro W ⟨pw, hW⟩
  have hBW : Below W3.heap.size W3 W := by rw [hW]; exact since_below W3 pw
  have hrW := row_below hr23 hBW
  have hw0 : W.cell? ⟨w.heap.size + 1, 0, none⟩ = some (.int .i64 0) := cell_row hrW rfl
  have hw1 : W.cell? ⟨w.heap.size + 1, 1, none⟩ = some (.int .u8 0) := cell_row hrW rfl
  have hw2 : W.cell? ⟨w.heap.size + 1, 2, none⟩ = some (.slice none 0 0) := cell_row hrW rfl
  have hwf : ∀ j, W.frozen? ⟨w.heap.size + 1, j, none⟩ = false := fun j => frozen_of_row _ _ _ _ _ hrW
  have hBE := below_then hB03 hB03.size hBW
  clear hW hq0 hq1 hq2 hr13 hr23
  go_wp2_with fail
  refine bodyPost_ret (v := .tuple #[.int .i64 (a), .agg #[.int .i64 x, .int .u8 4, .slice Ag ng cg]]) (by simp [results, Try.results84, go_sem, hw0, hw1, hw2]) rfl ?_
  exact meanN_left hBE (by have := HN.out.1; omega)

set_option maxHeartbeats 4000000 in
set_option maxRecDepth 100000 in
theorem meaning_ite8 (x c a b : Int) (Ag : Option Addr) (ng cg : Nat) (v0 : Value) (w : World) (h : IntsAt w v0 [c, a, b]) (hc : -1000000 ≤ c ∧ c ≤ 1000000) (zc : c ≠ 0) (ha : -1000000 ≤ a ∧ a ≤ 1000000) (za : a ≠ 0) (hb : -1000000 ≤ b ∧ b ≤ 1000000) (zb : b ≠ 0)
    (g0 : (c == 1000000) = false)
    (g1 : (c == -1000000) = false)
    (g2 : (a == b) = false)
    (g3 : (a == 1000000) = false)
    (g4 : (a == -1000000) = false)
    (g5 : (b == 1000000) = false)
    (g6 : (b == -1000000) = false) :
    Calls Try.prog 84 #[.agg #[.int .i64 x, .int .u8 4, .slice Ag ng cg], v0] w (MeanPost w x v0 0 4 [c, a, b]) := by
  obtain ⟨A, c0, e0, hlc, hcm⟩ := SlAt.form h
  replace e0 : v0 = .slice A 3 c0 := e0
  replace hlc : 3 ≤ c0 := hlc
  subst e0
  obtain ⟨bi, off, rfl, hx0, -⟩ := h.at_ 0 c rfl
  obtain ⟨_, _, e, hx1, -⟩ := h.at_ 1 a rfl
  cases e
  obtain ⟨_, _, e, hx2, -⟩ := h.at_ 2 b rfl
  cases e
  rw [Nat.add_zero] at hx0
  obtain ⟨hc1, hc2⟩ := hc
  have nc : IntKind.i64.wrap (-c) = -c := IntWalk.i64_in _ (by omega)
  obtain ⟨ha1, ha2⟩ := ha
  have na : IntKind.i64.wrap (-a) = -a := IntWalk.i64_in _ (by omega)
  obtain ⟨hb1, hb2⟩ := hb
  have nb : IntKind.i64.wrap (-b) = -b := IntWalk.i64_in _ (by omega)
  obtain ⟨W1, hW1, -, -, hz1, hB1, hh1⟩ := new_block w #[.int .i64 x, .int .u8 4, .slice Ag ng cg] 70
  obtain ⟨W2, hW2, -, -, hz2, hB2, hh2⟩ := new_block W1 #[.int .i64 0, .int .u8 0, .slice none 0 0] 70
  rw [hz1] at hh2 hz2
  have hr1 := row_below hh1 hB2
  have hBB := below_then hB1 hB1.size hB2
  have hp0 : W2.cell? ⟨w.heap.size, 0, none⟩ = some (.int .i64 x) := cell_row hr1 rfl
  have hp1 : W2.cell? ⟨w.heap.size, 1, none⟩ = some (.int .u8 4) := cell_row hr1 rfl
  have hp2 : W2.cell? ⟨w.heap.size, 2, none⟩ = some (.slice Ag ng cg) := cell_row hr1 rfl
  have HZ := hid hz1
  have HZ2 := hid (row_lt hh2)
  have hy0 := fun p => cell_since (keeps_below hBB _ _ hx0) p
  have hy1 := fun p => cell_since (keeps_below hBB _ _ hx1) p
  have hy2 := fun p => cell_since (keeps_below hBB _ _ hx2) p
  have HH := hid h
  have HN := hid (And.intro za zb)
  clear hx0 hx1 hx2 h hB1 hB2 hh1 hz2 zc za zb
  go_enter Try.func84, Try.ntmps84
  go_wp2_with fail
  refine region_quiet (by kernel_rfl) (by kernel_rfl) ?_
  repeat (first | go_big_quiet_step (fail) | quiet_step (fail))
  refine wpQuiet_nil ?_
  rintro W3 ⟨p3, hW3⟩
  have hB3 : Below W2.heap.size W2 W3 := by rw [hW3]; exact since_below W2 p3
  have hr13 := row_below hr1 hB3
  have hr23 := row_below hh2 hB3
  have hB03 := below_then hBB hBB.size hB3
  clear hW3 hB3 hp0 hp1 hp2 hr1 hh2 hy0 hy1 hy2 hBB hW1 hW2
  have hq0 : ∀ p, (since W3 p).cell? ⟨w.heap.size, 0, none⟩ = some (.int .i64 x) := fun p => cell_since (cell_row hr13 rfl) p
  have hq1 : ∀ p, (since W3 p).cell? ⟨w.heap.size, 1, none⟩ = some (.int .u8 4) := fun p => cell_since (cell_row hr13 rfl) p
  have hq2 : ∀ p, (since W3 p).cell? ⟨w.heap.size, 2, none⟩ = some (.slice Ag ng cg) := fun p => cell_since (cell_row hr13 rfl) p
  go_wp2_with fail
  refine region_tail 6 (by kernel_rfl) (by kernel_rfl) ?_
  simp only [List.take_succ_cons, List.take_zero, List.drop_succ_cons, List.drop_zero]
  repeat (first | go_big_quiet_step (fail) | quiet_step (fail))
  refine wpQuiet_nil ?_
  rintro W ⟨pw, hW⟩
  have hBW : Below W3.heap.size W3 W := by rw [hW]; exact since_below W3 pw
  have hrW := row_below hr23 hBW
  have hw0 : W.cell? ⟨w.heap.size + 1, 0, none⟩ = some (.int .i64 0) := cell_row hrW rfl
  have hw1 : W.cell? ⟨w.heap.size + 1, 1, none⟩ = some (.int .u8 0) := cell_row hrW rfl
  have hw2 : W.cell? ⟨w.heap.size + 1, 2, none⟩ = some (.slice none 0 0) := cell_row hrW rfl
  have hwf : ∀ j, W.frozen? ⟨w.heap.size + 1, j, none⟩ = false := fun j => frozen_of_row _ _ _ _ _ hrW
  have hBE := below_then hB03 hB03.size hBW
  clear hW hq0 hq1 hq2 hr13 hr23
  go_wp2_with fail
  refine bodyPost_ret (v := .tuple #[.int .i64 (0), .agg #[.int .i64 x, .int .u8 4, .slice (some ⟨bi, off, none⟩) 3 c0]]) (by simp [results, Try.results84, go_sem, hw0, hw1, hw2]) rfl ?_
  exact meanN_stay HH.out hBE

set_option maxHeartbeats 4000000 in
set_option maxRecDepth 100000 in
theorem meaning_ite4 (x c a b : Int) (Ag : Option Addr) (ng cg : Nat) (v0 : Value) (w : World) (h : IntsAt w v0 [c, a, b]) (hc : -1000000 ≤ c ∧ c ≤ 1000000) (zc : c ≠ 0) (ha : -1000000 ≤ a ∧ a ≤ 1000000) (za : a ≠ 0) (hb : -1000000 ≤ b ∧ b ≤ 1000000) (zb : b ≠ 0)
    (g0 : (c == 1000000) = false)
    (g1 : (c == -1000000) = false)
    (g2 : (a == b) = false)
    (g3 : (a == 1000000) = true) :
    Calls Try.prog 84 #[.agg #[.int .i64 x, .int .u8 4, .slice Ag ng cg], v0] w (MeanPost w x v0 (gatherP (-1000000) [c, b]).1 2 (gatherP (-1000000) [c, b]).2) := by
  obtain ⟨A, c0, e0, hlc, hcm⟩ := SlAt.form h
  replace e0 : v0 = .slice A 3 c0 := e0
  replace hlc : 3 ≤ c0 := hlc
  subst e0
  obtain ⟨bi, off, rfl, hx0, -⟩ := h.at_ 0 c rfl
  obtain ⟨_, _, e, hx1, -⟩ := h.at_ 1 a rfl
  cases e
  obtain ⟨_, _, e, hx2, -⟩ := h.at_ 2 b rfl
  cases e
  rw [Nat.add_zero] at hx0
  obtain ⟨hc1, hc2⟩ := hc
  have nc : IntKind.i64.wrap (-c) = -c := IntWalk.i64_in _ (by omega)
  obtain ⟨ha1, ha2⟩ := ha
  have na : IntKind.i64.wrap (-a) = -a := IntWalk.i64_in _ (by omega)
  obtain ⟨hb1, hb2⟩ := hb
  have nb : IntKind.i64.wrap (-b) = -b := IntWalk.i64_in _ (by omega)
  obtain ⟨W1, hW1, -, -, hz1, hB1, hh1⟩ := new_block w #[.int .i64 x, .int .u8 4, .slice Ag ng cg] 70
  obtain ⟨W2, hW2, -, -, hz2, hB2, hh2⟩ := new_block W1 #[.int .i64 0, .int .u8 0, .slice none 0 0] 70
  rw [hz1] at hh2 hz2
  have hr1 := row_below hh1 hB2
  have hBB := below_then hB1 hB1.size hB2
  have hp0 : W2.cell? ⟨w.heap.size, 0, none⟩ = some (.int .i64 x) := cell_row hr1 rfl
  have hp1 : W2.cell? ⟨w.heap.size, 1, none⟩ = some (.int .u8 4) := cell_row hr1 rfl
  have hp2 : W2.cell? ⟨w.heap.size, 2, none⟩ = some (.slice Ag ng cg) := cell_row hr1 rfl
  have HZ := hid hz1
  have HZ2 := hid (row_lt hh2)
  have hy0 := fun p => cell_since (keeps_below hBB _ _ hx0) p
  have hy1 := fun p => cell_since (keeps_below hBB _ _ hx1) p
  have hy2 := fun p => cell_since (keeps_below hBB _ _ hx2) p
  have HH := hid h
  have HN := hid (And.intro za zb)
  clear hx0 hx1 hx2 h hB1 hB2 hh1 hz2 zc za zb
  go_enter Try.func84, Try.ntmps84
  go_wp2_with fail
  refine region_quiet (by kernel_rfl) (by kernel_rfl) ?_
  repeat (first | go_big_quiet_step (fail) | quiet_step (fail))
  refine wpQuiet_nil ?_
  rintro W3 ⟨p3, hW3⟩
  have hB3 : Below W2.heap.size W2 W3 := by rw [hW3]; exact since_below W2 p3
  have hr13 := row_below hr1 hB3
  have hr23 := row_below hh2 hB3
  have hB03 := below_then hBB hBB.size hB3
  clear hW3 hB3 hp0 hp1 hp2 hr1 hh2 hy0 hy1 hy2 hBB hW1 hW2
  obtain ⟨W4, hW4, -, -, hz4, hB4, hh4⟩ := new_block W3 #[.int .i64 (c), .int .i64 (b)] 3
  have C := manyR_any 2 (-1000000) (1000000) (.slice (some ⟨W3.heap.size, 0, none⟩) 2 2) [c, b] W4 (two_ints hh4 (by unfold I64; omega) (by unfold I64; omega)) (.inl ⟨rfl, rfl, rfl⟩) (by intro y hy; simp at hy; omega) (by simp)
  have hlt3 : w.heap.size + 1 < W3.heap.size := row_lt hr23
  have hz4' := hid hz4
  clear hz4 hh4
  go_wp2_with fail
  refine C.mono ?_
  rintro e w6 ⟨hB6, vo, rfl, hvo, hfo⟩
  have hr16 := row_below (row_below hr13 hB4) hB6
  have hr26 := row_below (row_below hr23 hB4) hB6
  have hB06 := below_then (below_then hB03 hB03.size hB4) (below_then hB03 hB03.size hB4).size hB6
  obtain ⟨Ao, co, rfl, -, -⟩ := SlAt.form hvo
  have HFV : Hid (∀ q : Nat, (Value.slice Ao (gatherP (-1000000) [c, b]).2.length co).ownBlock = some q → w.heap.size + 2 ≤ q) := hid fun q hb => by have := hfo q hb; have := hB4.size; omega
  have HV := hid hvo
  clear C hr13 hr23 hB03 hB4 hB6 hvo hfo hW4
  have hq0 : ∀ p, (since w6 p).cell? ⟨w.heap.size, 0, none⟩ = some (.int .i64 x) := fun p => cell_since (cell_row hr16 rfl) p
  have hq1 : ∀ p, (since w6 p).cell? ⟨w.heap.size, 1, none⟩ = some (.int .u8 4) := fun p => cell_since (cell_row hr16 rfl) p
  have hq2 : ∀ p, (since w6 p).cell? ⟨w.heap.size, 2, none⟩ = some (.slice Ag ng cg) := fun p => cell_since (cell_row hr16 rfl) p
  go_wp2_with fail
  refine region_tail 7 (by kernel_rfl) (by kernel_rfl) ?_
  simp only [List.take_succ_cons, List.take_zero, List.drop_succ_cons, List.drop_zero]
  repeat (first | go_big_quiet_step (fail) | quiet_step (fail))
  refine wpQuiet_nil ?_
  rintro W ⟨pw, hW⟩
  have hBW : Below w6.heap.size w6 W := by rw [hW]; exact since_below w6 pw
  have hrW := row_below hr26 hBW
  have hw0 : W.cell? ⟨w.heap.size + 1, 0, none⟩ = some (.int .i64 0) := cell_row hrW rfl
  have hw1 : W.cell? ⟨w.heap.size + 1, 1, none⟩ = some (.int .u8 0) := cell_row hrW rfl
  have hw2 : W.cell? ⟨w.heap.size + 1, 2, none⟩ = some (.slice none 0 0) := cell_row hrW rfl
  have hwf : ∀ j, W.frozen? ⟨w.heap.size + 1, j, none⟩ = false := fun j => frozen_of_row _ _ _ _ _ hrW
  have hBE := below_then hB06 hB06.size hBW
  clear hW hq0 hq1 hq2 hr16 hr26
  go_wp2_with fail
  refine bodyPost_ret (v := .tuple #[.int .i64 ((gatherP (-1000000) [c, b]).1), .agg #[.int .i64 x, .int .u8 2, .slice Ao (gatherP (-1000000) [c, b]).2.length co]]) (by simp [results, Try.results84, go_sem, hw0, hw1, hw2]) rfl ?_
  exact meanN_new HV.out hBE hBW HFV.out

set_option maxHeartbeats 4000000 in
set_option maxRecDepth 100000 in
theorem meaning_ite5 (x c a b : Int) (Ag : Option Addr) (ng cg : Nat) (v0 : Value) (w : World) (h : IntsAt w v0 [c, a, b]) (hc : -1000000 ≤ c ∧ c ≤ 1000000) (zc : c ≠ 0) (ha : -1000000 ≤ a ∧ a ≤ 1000000) (za : a ≠ 0) (hb : -1000000 ≤ b ∧ b ≤ 1000000) (zb : b ≠ 0)
    (g0 : (c == 1000000) = false)
    (g1 : (c == -1000000) = false)
    (g2 : (a == b) = false)
    (g3 : (a == 1000000) = false)
    (g4 : (a == -1000000) = true) :
    Calls Try.prog 84 #[.agg #[.int .i64 x, .int .u8 4, .slice Ag ng cg], v0] w (MeanPost w x v0 (gatherP (1000000) [-c, b]).1 1 (gatherP (1000000) [-c, b]).2) := by
  obtain ⟨A, c0, e0, hlc, hcm⟩ := SlAt.form h
  replace e0 : v0 = .slice A 3 c0 := e0
  replace hlc : 3 ≤ c0 := hlc
  subst e0
  obtain ⟨bi, off, rfl, hx0, -⟩ := h.at_ 0 c rfl
  obtain ⟨_, _, e, hx1, -⟩ := h.at_ 1 a rfl
  cases e
  obtain ⟨_, _, e, hx2, -⟩ := h.at_ 2 b rfl
  cases e
  rw [Nat.add_zero] at hx0
  obtain ⟨hc1, hc2⟩ := hc
  have nc : IntKind.i64.wrap (-c) = -c := IntWalk.i64_in _ (by omega)
  obtain ⟨ha1, ha2⟩ := ha
  have na : IntKind.i64.wrap (-a) = -a := IntWalk.i64_in _ (by omega)
  obtain ⟨hb1, hb2⟩ := hb
  have nb : IntKind.i64.wrap (-b) = -b := IntWalk.i64_in _ (by omega)
  obtain ⟨W1, hW1, -, -, hz1, hB1, hh1⟩ := new_block w #[.int .i64 x, .int .u8 4, .slice Ag ng cg] 70
  obtain ⟨W2, hW2, -, -, hz2, hB2, hh2⟩ := new_block W1 #[.int .i64 0, .int .u8 0, .slice none 0 0] 70
  rw [hz1] at hh2 hz2
  have hr1 := row_below hh1 hB2
  have hBB := below_then hB1 hB1.size hB2
  have hp0 : W2.cell? ⟨w.heap.size, 0, none⟩ = some (.int .i64 x) := cell_row hr1 rfl
  have hp1 : W2.cell? ⟨w.heap.size, 1, none⟩ = some (.int .u8 4) := cell_row hr1 rfl
  have hp2 : W2.cell? ⟨w.heap.size, 2, none⟩ = some (.slice Ag ng cg) := cell_row hr1 rfl
  have HZ := hid hz1
  have HZ2 := hid (row_lt hh2)
  have hy0 := fun p => cell_since (keeps_below hBB _ _ hx0) p
  have hy1 := fun p => cell_since (keeps_below hBB _ _ hx1) p
  have hy2 := fun p => cell_since (keeps_below hBB _ _ hx2) p
  have HH := hid h
  have HN := hid (And.intro za zb)
  clear hx0 hx1 hx2 h hB1 hB2 hh1 hz2 zc za zb
  go_enter Try.func84, Try.ntmps84
  go_wp2_with fail
  refine region_quiet (by kernel_rfl) (by kernel_rfl) ?_
  repeat (first | go_big_quiet_step (fail) | quiet_step (fail))
  refine wpQuiet_nil ?_
  rintro W3 ⟨p3, hW3⟩
  have hB3 : Below W2.heap.size W2 W3 := by rw [hW3]; exact since_below W2 p3
  have hr13 := row_below hr1 hB3
  have hr23 := row_below hh2 hB3
  have hB03 := below_then hBB hBB.size hB3
  clear hW3 hB3 hp0 hp1 hp2 hr1 hh2 hy0 hy1 hy2 hBB hW1 hW2
  obtain ⟨W4, hW4, -, -, hz4, hB4, hh4⟩ := new_block W3 #[.int .i64 (-c), .int .i64 (b)] 3
  have C := manyR_any 1 (1000000) (-1000000) (.slice (some ⟨W3.heap.size, 0, none⟩) 2 2) [-c, b] W4 (two_ints hh4 (by unfold I64; omega) (by unfold I64; omega)) (.inr ⟨by decide, rfl, rfl⟩) (by intro y hy; simp at hy; omega) (by simp)
  have hlt3 : w.heap.size + 1 < W3.heap.size := row_lt hr23
  have hz4' := hid hz4
  clear hz4 hh4
  go_wp2_with fail
  refine C.mono ?_
  rintro e w6 ⟨hB6, vo, rfl, hvo, hfo⟩
  have hr16 := row_below (row_below hr13 hB4) hB6
  have hr26 := row_below (row_below hr23 hB4) hB6
  have hB06 := below_then (below_then hB03 hB03.size hB4) (below_then hB03 hB03.size hB4).size hB6
  obtain ⟨Ao, co, rfl, -, -⟩ := SlAt.form hvo
  have HFV : Hid (∀ q : Nat, (Value.slice Ao (gatherP (1000000) [-c, b]).2.length co).ownBlock = some q → w.heap.size + 2 ≤ q) := hid fun q hb => by have := hfo q hb; have := hB4.size; omega
  have HV := hid hvo
  clear C hr13 hr23 hB03 hB4 hB6 hvo hfo hW4
  have hq0 : ∀ p, (since w6 p).cell? ⟨w.heap.size, 0, none⟩ = some (.int .i64 x) := fun p => cell_since (cell_row hr16 rfl) p
  have hq1 : ∀ p, (since w6 p).cell? ⟨w.heap.size, 1, none⟩ = some (.int .u8 4) := fun p => cell_since (cell_row hr16 rfl) p
  have hq2 : ∀ p, (since w6 p).cell? ⟨w.heap.size, 2, none⟩ = some (.slice Ag ng cg) := fun p => cell_since (cell_row hr16 rfl) p
  go_wp2_with fail
  refine region_tail 7 (by kernel_rfl) (by kernel_rfl) ?_
  simp only [List.take_succ_cons, List.take_zero, List.drop_succ_cons, List.drop_zero]
  repeat (first | go_big_quiet_step (fail) | quiet_step (fail))
  refine wpQuiet_nil ?_
  rintro W ⟨pw, hW⟩
  have hBW : Below w6.heap.size w6 W := by rw [hW]; exact since_below w6 pw
  have hrW := row_below hr26 hBW
  have hw0 : W.cell? ⟨w.heap.size + 1, 0, none⟩ = some (.int .i64 0) := cell_row hrW rfl
  have hw1 : W.cell? ⟨w.heap.size + 1, 1, none⟩ = some (.int .u8 0) := cell_row hrW rfl
  have hw2 : W.cell? ⟨w.heap.size + 1, 2, none⟩ = some (.slice none 0 0) := cell_row hrW rfl
  have hwf : ∀ j, W.frozen? ⟨w.heap.size + 1, j, none⟩ = false := fun j => frozen_of_row _ _ _ _ _ hrW
  have hBE := below_then hB06 hB06.size hBW
  clear hW hq0 hq1 hq2 hr16 hr26
  go_wp2_with fail
  refine bodyPost_ret (v := .tuple #[.int .i64 ((gatherP (1000000) [-c, b]).1), .agg #[.int .i64 x, .int .u8 1, .slice Ao (gatherP (1000000) [-c, b]).2.length co]]) (by simp [results, Try.results84, go_sem, hw0, hw1, hw2]) rfl ?_
  exact meanN_new HV.out hBE hBW HFV.out

set_option maxHeartbeats 4000000 in
set_option maxRecDepth 100000 in
theorem meaning_ite6 (x c a b : Int) (Ag : Option Addr) (ng cg : Nat) (v0 : Value) (w : World) (h : IntsAt w v0 [c, a, b]) (hc : -1000000 ≤ c ∧ c ≤ 1000000) (zc : c ≠ 0) (ha : -1000000 ≤ a ∧ a ≤ 1000000) (za : a ≠ 0) (hb : -1000000 ≤ b ∧ b ≤ 1000000) (zb : b ≠ 0)
    (g0 : (c == 1000000) = false)
    (g1 : (c == -1000000) = false)
    (g2 : (a == b) = false)
    (g3 : (a == 1000000) = false)
    (g4 : (a == -1000000) = false)
    (g5 : (b == 1000000) = true) :
    Calls Try.prog 84 #[.agg #[.int .i64 x, .int .u8 4, .slice Ag ng cg], v0] w (MeanPost w x v0 (gatherP (-1000000) [-c, a]).1 2 (gatherP (-1000000) [-c, a]).2) := by
  obtain ⟨A, c0, e0, hlc, hcm⟩ := SlAt.form h
  replace e0 : v0 = .slice A 3 c0 := e0
  replace hlc : 3 ≤ c0 := hlc
  subst e0
  obtain ⟨bi, off, rfl, hx0, -⟩ := h.at_ 0 c rfl
  obtain ⟨_, _, e, hx1, -⟩ := h.at_ 1 a rfl
  cases e
  obtain ⟨_, _, e, hx2, -⟩ := h.at_ 2 b rfl
  cases e
  rw [Nat.add_zero] at hx0
  obtain ⟨hc1, hc2⟩ := hc
  have nc : IntKind.i64.wrap (-c) = -c := IntWalk.i64_in _ (by omega)
  obtain ⟨ha1, ha2⟩ := ha
  have na : IntKind.i64.wrap (-a) = -a := IntWalk.i64_in _ (by omega)
  obtain ⟨hb1, hb2⟩ := hb
  have nb : IntKind.i64.wrap (-b) = -b := IntWalk.i64_in _ (by omega)
  obtain ⟨W1, hW1, -, -, hz1, hB1, hh1⟩ := new_block w #[.int .i64 x, .int .u8 4, .slice Ag ng cg] 70
  obtain ⟨W2, hW2, -, -, hz2, hB2, hh2⟩ := new_block W1 #[.int .i64 0, .int .u8 0, .slice none 0 0] 70
  rw [hz1] at hh2 hz2
  have hr1 := row_below hh1 hB2
  have hBB := below_then hB1 hB1.size hB2
  have hp0 : W2.cell? ⟨w.heap.size, 0, none⟩ = some (.int .i64 x) := cell_row hr1 rfl
  have hp1 : W2.cell? ⟨w.heap.size, 1, none⟩ = some (.int .u8 4) := cell_row hr1 rfl
  have hp2 : W2.cell? ⟨w.heap.size, 2, none⟩ = some (.slice Ag ng cg) := cell_row hr1 rfl
  have HZ := hid hz1
  have HZ2 := hid (row_lt hh2)
  have hy0 := fun p => cell_since (keeps_below hBB _ _ hx0) p
  have hy1 := fun p => cell_since (keeps_below hBB _ _ hx1) p
  have hy2 := fun p => cell_since (keeps_below hBB _ _ hx2) p
  have HH := hid h
  have HN := hid (And.intro za zb)
  clear hx0 hx1 hx2 h hB1 hB2 hh1 hz2 zc za zb
  go_enter Try.func84, Try.ntmps84
  go_wp2_with fail
  refine region_quiet (by kernel_rfl) (by kernel_rfl) ?_
  repeat (first | go_big_quiet_step (fail) | quiet_step (fail))
  refine wpQuiet_nil ?_
  rintro W3 ⟨p3, hW3⟩
  have hB3 : Below W2.heap.size W2 W3 := by rw [hW3]; exact since_below W2 p3
  have hr13 := row_below hr1 hB3
  have hr23 := row_below hh2 hB3
  have hB03 := below_then hBB hBB.size hB3
  clear hW3 hB3 hp0 hp1 hp2 hr1 hh2 hy0 hy1 hy2 hBB hW1 hW2
  obtain ⟨W4, hW4, -, -, hz4, hB4, hh4⟩ := new_block W3 #[.int .i64 (-c), .int .i64 (a)] 3
  have C := manyR_any 2 (-1000000) (1000000) (.slice (some ⟨W3.heap.size, 0, none⟩) 2 2) [-c, a] W4 (two_ints hh4 (by unfold I64; omega) (by unfold I64; omega)) (.inl ⟨rfl, rfl, rfl⟩) (by intro y hy; simp at hy; omega) (by simp)
  have hlt3 : w.heap.size + 1 < W3.heap.size := row_lt hr23
  have hz4' := hid hz4
  clear hz4 hh4
  go_wp2_with fail
  refine C.mono ?_
  rintro e w6 ⟨hB6, vo, rfl, hvo, hfo⟩
  have hr16 := row_below (row_below hr13 hB4) hB6
  have hr26 := row_below (row_below hr23 hB4) hB6
  have hB06 := below_then (below_then hB03 hB03.size hB4) (below_then hB03 hB03.size hB4).size hB6
  obtain ⟨Ao, co, rfl, -, -⟩ := SlAt.form hvo
  have HFV : Hid (∀ q : Nat, (Value.slice Ao (gatherP (-1000000) [-c, a]).2.length co).ownBlock = some q → w.heap.size + 2 ≤ q) := hid fun q hb => by have := hfo q hb; have := hB4.size; omega
  have HV := hid hvo
  clear C hr13 hr23 hB03 hB4 hB6 hvo hfo hW4
  have hq0 : ∀ p, (since w6 p).cell? ⟨w.heap.size, 0, none⟩ = some (.int .i64 x) := fun p => cell_since (cell_row hr16 rfl) p
  have hq1 : ∀ p, (since w6 p).cell? ⟨w.heap.size, 1, none⟩ = some (.int .u8 4) := fun p => cell_since (cell_row hr16 rfl) p
  have hq2 : ∀ p, (since w6 p).cell? ⟨w.heap.size, 2, none⟩ = some (.slice Ag ng cg) := fun p => cell_since (cell_row hr16 rfl) p
  go_wp2_with fail
  refine region_tail 7 (by kernel_rfl) (by kernel_rfl) ?_
  simp only [List.take_succ_cons, List.take_zero, List.drop_succ_cons, List.drop_zero]
  repeat (first | go_big_quiet_step (fail) | quiet_step (fail))
  refine wpQuiet_nil ?_
  rintro W ⟨pw, hW⟩
  have hBW : Below w6.heap.size w6 W := by rw [hW]; exact since_below w6 pw
  have hrW := row_below hr26 hBW
  have hw0 : W.cell? ⟨w.heap.size + 1, 0, none⟩ = some (.int .i64 0) := cell_row hrW rfl
  have hw1 : W.cell? ⟨w.heap.size + 1, 1, none⟩ = some (.int .u8 0) := cell_row hrW rfl
  have hw2 : W.cell? ⟨w.heap.size + 1, 2, none⟩ = some (.slice none 0 0) := cell_row hrW rfl
  have hwf : ∀ j, W.frozen? ⟨w.heap.size + 1, j, none⟩ = false := fun j => frozen_of_row _ _ _ _ _ hrW
  have hBE := below_then hB06 hB06.size hBW
  clear hW hq0 hq1 hq2 hr16 hr26
  go_wp2_with fail
  refine bodyPost_ret (v := .tuple #[.int .i64 ((gatherP (-1000000) [-c, a]).1), .agg #[.int .i64 x, .int .u8 2, .slice Ao (gatherP (-1000000) [-c, a]).2.length co]]) (by simp [results, Try.results84, go_sem, hw0, hw1, hw2]) rfl ?_
  exact meanN_new HV.out hBE hBW HFV.out

set_option maxHeartbeats 4000000 in
set_option maxRecDepth 100000 in
theorem meaning_ite7 (x c a b : Int) (Ag : Option Addr) (ng cg : Nat) (v0 : Value) (w : World) (h : IntsAt w v0 [c, a, b]) (hc : -1000000 ≤ c ∧ c ≤ 1000000) (zc : c ≠ 0) (ha : -1000000 ≤ a ∧ a ≤ 1000000) (za : a ≠ 0) (hb : -1000000 ≤ b ∧ b ≤ 1000000) (zb : b ≠ 0)
    (g0 : (c == 1000000) = false)
    (g1 : (c == -1000000) = false)
    (g2 : (a == b) = false)
    (g3 : (a == 1000000) = false)
    (g4 : (a == -1000000) = false)
    (g5 : (b == 1000000) = false)
    (g6 : (b == -1000000) = true) :
    Calls Try.prog 84 #[.agg #[.int .i64 x, .int .u8 4, .slice Ag ng cg], v0] w (MeanPost w x v0 (gatherP (1000000) [c, a]).1 1 (gatherP (1000000) [c, a]).2) := by
  obtain ⟨A, c0, e0, hlc, hcm⟩ := SlAt.form h
  replace e0 : v0 = .slice A 3 c0 := e0
  replace hlc : 3 ≤ c0 := hlc
  subst e0
  obtain ⟨bi, off, rfl, hx0, -⟩ := h.at_ 0 c rfl
  obtain ⟨_, _, e, hx1, -⟩ := h.at_ 1 a rfl
  cases e
  obtain ⟨_, _, e, hx2, -⟩ := h.at_ 2 b rfl
  cases e
  rw [Nat.add_zero] at hx0
  obtain ⟨hc1, hc2⟩ := hc
  have nc : IntKind.i64.wrap (-c) = -c := IntWalk.i64_in _ (by omega)
  obtain ⟨ha1, ha2⟩ := ha
  have na : IntKind.i64.wrap (-a) = -a := IntWalk.i64_in _ (by omega)
  obtain ⟨hb1, hb2⟩ := hb
  have nb : IntKind.i64.wrap (-b) = -b := IntWalk.i64_in _ (by omega)
  obtain ⟨W1, hW1, -, -, hz1, hB1, hh1⟩ := new_block w #[.int .i64 x, .int .u8 4, .slice Ag ng cg] 70
  obtain ⟨W2, hW2, -, -, hz2, hB2, hh2⟩ := new_block W1 #[.int .i64 0, .int .u8 0, .slice none 0 0] 70
  rw [hz1] at hh2 hz2
  have hr1 := row_below hh1 hB2
  have hBB := below_then hB1 hB1.size hB2
  have hp0 : W2.cell? ⟨w.heap.size, 0, none⟩ = some (.int .i64 x) := cell_row hr1 rfl
  have hp1 : W2.cell? ⟨w.heap.size, 1, none⟩ = some (.int .u8 4) := cell_row hr1 rfl
  have hp2 : W2.cell? ⟨w.heap.size, 2, none⟩ = some (.slice Ag ng cg) := cell_row hr1 rfl
  have HZ := hid hz1
  have HZ2 := hid (row_lt hh2)
  have hy0 := fun p => cell_since (keeps_below hBB _ _ hx0) p
  have hy1 := fun p => cell_since (keeps_below hBB _ _ hx1) p
  have hy2 := fun p => cell_since (keeps_below hBB _ _ hx2) p
  have HH := hid h
  have HN := hid (And.intro za zb)
  clear hx0 hx1 hx2 h hB1 hB2 hh1 hz2 zc za zb
  go_enter Try.func84, Try.ntmps84
  go_wp2_with fail
  refine region_quiet (by kernel_rfl) (by kernel_rfl) ?_
  repeat (first | go_big_quiet_step (fail) | quiet_step (fail))
  refine wpQuiet_nil ?_
  rintro W3 ⟨p3, hW3⟩
  have hB3 : Below W2.heap.size W2 W3 := by rw [hW3]; exact since_below W2 p3
  have hr13 := row_below hr1 hB3
  have hr23 := row_below hh2 hB3
  have hB03 := below_then hBB hBB.size hB3
  clear hW3 hB3 hp0 hp1 hp2 hr1 hh2 hy0 hy1 hy2 hBB hW1 hW2
  obtain ⟨W4, hW4, -, -, hz4, hB4, hh4⟩ := new_block W3 #[.int .i64 (c), .int .i64 (a)] 3
  have C := manyR_any 1 (1000000) (-1000000) (.slice (some ⟨W3.heap.size, 0, none⟩) 2 2) [c, a] W4 (two_ints hh4 (by unfold I64; omega) (by unfold I64; omega)) (.inr ⟨by decide, rfl, rfl⟩) (by intro y hy; simp at hy; omega) (by simp)
  have hlt3 : w.heap.size + 1 < W3.heap.size := row_lt hr23
  have hz4' := hid hz4
  clear hz4 hh4
  go_wp2_with fail
  refine C.mono ?_
  rintro e w6 ⟨hB6, vo, rfl, hvo, hfo⟩
  have hr16 := row_below (row_below hr13 hB4) hB6
  have hr26 := row_below (row_below hr23 hB4) hB6
  have hB06 := below_then (below_then hB03 hB03.size hB4) (below_then hB03 hB03.size hB4).size hB6
  obtain ⟨Ao, co, rfl, -, -⟩ := SlAt.form hvo
  have HFV : Hid (∀ q : Nat, (Value.slice Ao (gatherP (1000000) [c, a]).2.length co).ownBlock = some q → w.heap.size + 2 ≤ q) := hid fun q hb => by have := hfo q hb; have := hB4.size; omega
  have HV := hid hvo
  clear C hr13 hr23 hB03 hB4 hB6 hvo hfo hW4
  have hq0 : ∀ p, (since w6 p).cell? ⟨w.heap.size, 0, none⟩ = some (.int .i64 x) := fun p => cell_since (cell_row hr16 rfl) p
  have hq1 : ∀ p, (since w6 p).cell? ⟨w.heap.size, 1, none⟩ = some (.int .u8 4) := fun p => cell_since (cell_row hr16 rfl) p
  have hq2 : ∀ p, (since w6 p).cell? ⟨w.heap.size, 2, none⟩ = some (.slice Ag ng cg) := fun p => cell_since (cell_row hr16 rfl) p
  go_wp2_with fail
  refine region_tail 7 (by kernel_rfl) (by kernel_rfl) ?_
  simp only [List.take_succ_cons, List.take_zero, List.drop_succ_cons, List.drop_zero]
  repeat (first | go_big_quiet_step (fail) | quiet_step (fail))
  refine wpQuiet_nil ?_
  rintro W ⟨pw, hW⟩
  have hBW : Below w6.heap.size w6 W := by rw [hW]; exact since_below w6 pw
  have hrW := row_below hr26 hBW
  have hw0 : W.cell? ⟨w.heap.size + 1, 0, none⟩ = some (.int .i64 0) := cell_row hrW rfl
  have hw1 : W.cell? ⟨w.heap.size + 1, 1, none⟩ = some (.int .u8 0) := cell_row hrW rfl
  have hw2 : W.cell? ⟨w.heap.size + 1, 2, none⟩ = some (.slice none 0 0) := cell_row hrW rfl
  have hwf : ∀ j, W.frozen? ⟨w.heap.size + 1, j, none⟩ = false := fun j => frozen_of_row _ _ _ _ _ hrW
  have hBE := below_then hB06 hB06.size hBW
  clear hW hq0 hq1 hq2 hr16 hr26
  go_wp2_with fail
  refine bodyPost_ret (v := .tuple #[.int .i64 ((gatherP (1000000) [c, a]).1), .agg #[.int .i64 x, .int .u8 1, .slice Ao (gatherP (1000000) [c, a]).2.length co]]) (by simp [results, Try.results84, go_sem, hw0, hw1, hw2]) rfl ?_
  exact meanN_new HV.out hBE hBW HFV.out

set_option maxHeartbeats 4000000 in
set_option maxRecDepth 100000 in
theorem meaning_and (x : Int) (ls : List Int) (Ag : Option Addr) (ng cg : Nat) (v0 : Value) (w : World) (h : IntsAt w v0 ls) (hls : ∀ y ∈ ls, -1000000 ≤ y ∧ y ≤ 1000000) (hn : ls.length ≤ 1099511627776) :
    Calls Try.prog 84 #[.agg #[.int .i64 x, .int .u8 1, .slice Ag ng cg], v0] w (MeanPost w x v0 (gatherP (1000000) ls).1 1 (gatherP (1000000) ls).2) := by
  obtain ⟨A, c0, rfl, hlc, hcm⟩ := SlAt.form h
  obtain ⟨W1, hW1, -, -, hz1, hB1, hh1⟩ := new_block w #[.int .i64 x, .int .u8 1, .slice Ag ng cg] 70
  obtain ⟨W2, hW2, -, -, hz2, hB2, hh2⟩ := new_block W1 #[.int .i64 0, .int .u8 0, .slice none 0 0] 70
  rw [hz1] at hh2 hz2
  have hr1 := row_below hh1 hB2
  have hBB := below_then hB1 hB1.size hB2
  have hp0 : W2.cell? ⟨w.heap.size, 0, none⟩ = some (.int .i64 x) := cell_row hr1 rfl
  have hp1 : W2.cell? ⟨w.heap.size, 1, none⟩ = some (.int .u8 1) := cell_row hr1 rfl
  have hp2 : W2.cell? ⟨w.heap.size, 2, none⟩ = some (.slice Ag ng cg) := cell_row hr1 rfl
  have HZ := hid hz1
  have HZ2 := hid (row_lt hh2)
  have C := manyR_any 1 (1000000) (-1000000) (.slice A ls.length c0) ls W2 (h.keep (keeps_below hBB)) (.inr ⟨by decide, rfl, rfl⟩) hls hn
  clear h hB1 hB2 hh1 hz2 hls
  go_enter Try.func84, Try.ntmps84
  go_wp2_with fail
  refine C.mono ?_
  rintro e w6 ⟨hB6, vo, rfl, hvo, hfo⟩
  have hr16 := row_below hr1 hB6
  have hr26 := row_below hh2 hB6
  have hB06 := below_then hBB hBB.size hB6
  obtain ⟨Ao, co, rfl, -, -⟩ := SlAt.form hvo
  have HFV : Hid (∀ q : Nat, (Value.slice Ao (gatherP (1000000) ls).2.length co).ownBlock = some q → w.heap.size + 2 ≤ q) := hid fun q hb => by have := hfo q hb; have := HZ2.out; omega
  have HV := hid hvo
  clear C hr1 hh2 hBB hB6 hvo hfo hW1 hW2 hp0 hp1 hp2
  have hq0 : ∀ p, (since w6 p).cell? ⟨w.heap.size, 0, none⟩ = some (.int .i64 x) := fun p => cell_since (cell_row hr16 rfl) p
  have hq1 : ∀ p, (since w6 p).cell? ⟨w.heap.size, 1, none⟩ = some (.int .u8 1) := fun p => cell_since (cell_row hr16 rfl) p
  have hq2 : ∀ p, (since w6 p).cell? ⟨w.heap.size, 2, none⟩ = some (.slice Ag ng cg) := fun p => cell_since (cell_row hr16 rfl) p
  go_wp2_with fail
  refine region_tail 7 (by kernel_rfl) (by kernel_rfl) ?_
  simp only [List.take_succ_cons, List.take_zero, List.drop_succ_cons, List.drop_zero]
  repeat (first | go_big_quiet_step (fail) | quiet_step (fail))
  refine wpQuiet_nil ?_
  rintro W ⟨pw, hW⟩
  have hBW : Below w6.heap.size w6 W := by rw [hW]; exact since_below w6 pw
  have hrW := row_below hr26 hBW
  have hw0 : W.cell? ⟨w.heap.size + 1, 0, none⟩ = some (.int .i64 0) := cell_row hrW rfl
  have hw1 : W.cell? ⟨w.heap.size + 1, 1, none⟩ = some (.int .u8 0) := cell_row hrW rfl
  have hw2 : W.cell? ⟨w.heap.size + 1, 2, none⟩ = some (.slice none 0 0) := cell_row hrW rfl
  have hwf : ∀ j, W.frozen? ⟨w.heap.size + 1, j, none⟩ = false := fun j => frozen_of_row _ _ _ _ _ hrW
  have hBE := below_then hB06 hB06.size hBW
  clear hW hq0 hq1 hq2 hr16 hr26
  go_wp2_with fail
  refine bodyPost_ret (v := .tuple #[.int .i64 ((gatherP (1000000) ls).1), .agg #[.int .i64 x, .int .u8 1, .slice Ao (gatherP (1000000) ls).2.length co]]) (by simp [results, Try.results84, go_sem, hw0, hw1, hw2]) rfl ?_
  exact meanN_new HV.out hBE hBW HFV.out

set_option maxHeartbeats 4000000 in
set_option maxRecDepth 100000 in
theorem meaning_or (x : Int) (ls : List Int) (Ag : Option Addr) (ng cg : Nat) (v0 : Value) (w : World) (h : IntsAt w v0 ls) (hls : ∀ y ∈ ls, -1000000 ≤ y ∧ y ≤ 1000000) (hn : ls.length ≤ 1099511627776) :
    Calls Try.prog 84 #[.agg #[.int .i64 x, .int .u8 2, .slice Ag ng cg], v0] w (MeanPost w x v0 (gatherP (-1000000) ls).1 2 (gatherP (-1000000) ls).2) := by
  obtain ⟨A, c0, rfl, hlc, hcm⟩ := SlAt.form h
  obtain ⟨W1, hW1, -, -, hz1, hB1, hh1⟩ := new_block w #[.int .i64 x, .int .u8 2, .slice Ag ng cg] 70
  obtain ⟨W2, hW2, -, -, hz2, hB2, hh2⟩ := new_block W1 #[.int .i64 0, .int .u8 0, .slice none 0 0] 70
  rw [hz1] at hh2 hz2
  have hr1 := row_below hh1 hB2
  have hBB := below_then hB1 hB1.size hB2
  have hp0 : W2.cell? ⟨w.heap.size, 0, none⟩ = some (.int .i64 x) := cell_row hr1 rfl
  have hp1 : W2.cell? ⟨w.heap.size, 1, none⟩ = some (.int .u8 2) := cell_row hr1 rfl
  have hp2 : W2.cell? ⟨w.heap.size, 2, none⟩ = some (.slice Ag ng cg) := cell_row hr1 rfl
  have HZ := hid hz1
  have HZ2 := hid (row_lt hh2)
  have C := manyR_any 2 (-1000000) (1000000) (.slice A ls.length c0) ls W2 (h.keep (keeps_below hBB)) (.inl ⟨rfl, rfl, rfl⟩) hls hn
  clear h hB1 hB2 hh1 hz2 hls
  go_enter Try.func84, Try.ntmps84
  go_wp2_with fail
  refine C.mono ?_
  rintro e w6 ⟨hB6, vo, rfl, hvo, hfo⟩
  have hr16 := row_below hr1 hB6
  have hr26 := row_below hh2 hB6
  have hB06 := below_then hBB hBB.size hB6
  obtain ⟨Ao, co, rfl, -, -⟩ := SlAt.form hvo
  have HFV : Hid (∀ q : Nat, (Value.slice Ao (gatherP (-1000000) ls).2.length co).ownBlock = some q → w.heap.size + 2 ≤ q) := hid fun q hb => by have := hfo q hb; have := HZ2.out; omega
  have HV := hid hvo
  clear C hr1 hh2 hBB hB6 hvo hfo hW1 hW2 hp0 hp1 hp2
  have hq0 : ∀ p, (since w6 p).cell? ⟨w.heap.size, 0, none⟩ = some (.int .i64 x) := fun p => cell_since (cell_row hr16 rfl) p
  have hq1 : ∀ p, (since w6 p).cell? ⟨w.heap.size, 1, none⟩ = some (.int .u8 2) := fun p => cell_since (cell_row hr16 rfl) p
  have hq2 : ∀ p, (since w6 p).cell? ⟨w.heap.size, 2, none⟩ = some (.slice Ag ng cg) := fun p => cell_since (cell_row hr16 rfl) p
  go_wp2_with fail
  refine region_tail 7 (by kernel_rfl) (by kernel_rfl) ?_
  simp only [List.take_succ_cons, List.take_zero, List.drop_succ_cons, List.drop_zero]
  repeat (first | go_big_quiet_step (fail) | quiet_step (fail))
  refine wpQuiet_nil ?_
  rintro W ⟨pw, hW⟩
  have hBW : Below w6.heap.size w6 W := by rw [hW]; exact since_below w6 pw
  have hrW := row_below hr26 hBW
  have hw0 : W.cell? ⟨w.heap.size + 1, 0, none⟩ = some (.int .i64 0) := cell_row hrW rfl
  have hw1 : W.cell? ⟨w.heap.size + 1, 1, none⟩ = some (.int .u8 0) := cell_row hrW rfl
  have hw2 : W.cell? ⟨w.heap.size + 1, 2, none⟩ = some (.slice none 0 0) := cell_row hrW rfl
  have hwf : ∀ j, W.frozen? ⟨w.heap.size + 1, j, none⟩ = false := fun j => frozen_of_row _ _ _ _ _ hrW
  have hBE := below_then hB06 hB06.size hBW
  clear hW hq0 hq1 hq2 hr16 hr26
  go_wp2_with fail
  refine bodyPost_ret (v := .tuple #[.int .i64 ((gatherP (-1000000) ls).1), .agg #[.int .i64 x, .int .u8 2, .slice Ao (gatherP (-1000000) ls).2.length co]]) (by simp [results, Try.results84, go_sem, hw0, hw1, hw2]) rfl ?_
  exact meanN_new HV.out hBE hBW HFV.out

end Go.Proofs.Ytnlobmepajakcaa
