/- The closure of QcirSpaces: it counts up its cell and gives the byte at that place. -/
import Derived.Test.YtnlobmepajakcaaGreatDoorPrR
import Derived.Test.YtnlobmepajakcaaGreatDoorSpA
set_option linter.unusedVariables false
set_option linter.unusedSimpArgs false
namespace Go.Proofs.YtnlobmepajakcaaGreatDoor
open Go.RowKit Go.Shelf
attribute [local go_sem] Oper.semAt_some

def U8C (w : World) (b o : Nat) (x : UInt8) : Prop := w.cell? ⟨b, o, none⟩ = some (.int .u8 (x.toNat : Int))
def BytesAt (w : World) (v : Value) (xs : Bs) : Prop := SlAt 1 U8C w v xs
theorem BytesAt.keep {w w' : World} {v : Value} {xs : Bs} (h : BytesAt w v xs) (hk : Keeps w w') : BytesAt w' v xs := SlAt.keep h fun _ _ _ h => hk _ _ h
theorem BytesAt.at_ {w : World} {A : Option Addr} {n c : Nat} {xs : Bs} (h : BytesAt w (.slice A n c) xs) (k : Nat) (x : UInt8) (hx : xs[k]? = some x) :
    ∃ b off, A = some ⟨b, off, none⟩ ∧ w.cell? ⟨b, off + k, none⟩ = some (.int .u8 (x.toNat : Int)) := by
  obtain ⟨A', c', e, h1, h2, h3⟩ := h
  cases e
  obtain ⟨b, off, e2, h4⟩ := h3 (by have := (List.getElem?_eq_some_iff.1 hx).1; omega)
  have := h4 k x hx
  rw [Nat.mul_one] at this
  exact ⟨b, off, e2, this⟩
set_option maxRecDepth 100000 in
set_option maxHeartbeats 1000000 in
theorem next_any (bk bs i : Nat) (A : Option Addr) (c : Nat) (xs : Bs) (w w0 : World) (hB : Below w0.heap.size w0 w) (hbk : w0.heap.size ≤ bk) (hne : bk ≠ bs) (hk : w.heap[bk]? = some (.cells #[.int .i64 (i : Int)] 3 (0, 0)))
    (hs : w.heap[bs]? = some (.cells #[.slice A xs.length c] 22 (0, 0))) (hat : BytesAt w0 (.slice A xs.length c) xs) (hpos : 0 < xs.length) (hle : xs.length ≤ 1000) (hi : i ≤ 100000) :
    Calls Tryz.prog 12 #[.pointer (some ⟨bk, 0, none⟩), .pointer (some ⟨bs, 0, none⟩)] w fun e w' => (∃ x : UInt8, e = .returned (.int .u8 (x.toNat : Int))) ∧ w' = (w.setCell ⟨bk, 0, none⟩ (.int .i64 ((i : Int) + 1))).drew := by
  have k0 : w.cell? ⟨bk, 0, none⟩ = some (.int .i64 (i : Int)) := cell_row hk rfl
  have kf : w.frozen? ⟨bk, 0, none⟩ = false := frozen_of_row _ _ 0 _ _ hk
  have hwr : IntKind.i64.wrap ((i : Int) + 1) = (i : Int) + 1 := IntWalk.i64_in _ (by omega)
  have g1 : w.grownBy (w.setCell ⟨bk, 0, none⟩ (.int .i64 ((i : Int) + 1))) (some bk) := grown_setCell w ⟨bk, 0, none⟩ _
  have r1 : (w.setCell ⟨bk, 0, none⟩ (.int .i64 ((i : Int) + 1))).heap[bk]? = some (.cells #[.int .i64 ((i : Int) + 1)] 3 (0, 0)) := row_set hk (i := 0) _
  have r2 := row_grown hs g1 (by intro e; injection e with e; exact hne e)
  have hB1 : Below w0.heap.size w0 (w.setCell ⟨bk, 0, none⟩ (.int .i64 ((i : Int) + 1))) := hB.trans ⟨g1.os, g1.tape, g1.output, g1.size, fun k hk => g1.block k (Nat.lt_of_lt_of_le hk hB.size) (by intro e; injection e with e; omega)⟩
  generalize hW1 : w.setCell ⟨bk, 0, none⟩ (.int .i64 ((i : Int) + 1)) = W1 at *
  have c1 : W1.drew.cell? ⟨bk, 0, none⟩ = some (.int .i64 ((i : Int) + 1)) := cell_row r1 rfl
  have c2 : W1.drew.cell? ⟨bs, 0, none⟩ = some (.slice A xs.length c) := cell_row r2 rfl
  have hj : (i + 1) % xs.length < xs.length := Nat.mod_lt _ hpos
  obtain ⟨x, hx⟩ : ∃ x, xs[(i + 1) % xs.length]? = some x := ⟨_, List.getElem?_eq_getElem hj⟩
  obtain ⟨b, off, rfl, hc⟩ := (hat.keep (keeps_below hB1.drew)).at_ _ x hx
  have hm : ((i : Int) + 1).tmod (xs.length : Int) = (((i + 1) % xs.length : Nat) : Int) := by rw [Int.tmod_eq_emod_of_nonneg (by omega), Int.natCast_emod]; rfl
  have hl1 : ¬ xs = [] := by rintro rfl; simp at hpos
  generalize (i + 1) % xs.length = j at *
  go_enter Tryz.func12, Tryz.ntmps12
  go_wp2_with fail
  refine wp_region_held_drew (S := fun W => W = W1.drew) (by kernel_rfl) rfl (fun hHeld => ?_)
  refine wpAnyH_take (i := 0) (v := ?vn1) rfl (by kernel_rfl) (by kernel_rfl) (by kernel_rfl) (fun _ _ _ h => h) (Or.inl ⟨by rfl, ?yn1⟩) hHeld ?_
  case yn1 => (intro w' hSw; (try dsimp only at hSw); go_simp); (try with_reducible rfl)
  try simp only [Act.put, List.setIfInBounds_toArray, List.set_cons_zero, List.set_cons_succ]
  refine wpAnyH_take (i := 1) (v := ?vn2) rfl (by kernel_rfl) (by kernel_rfl) (by kernel_rfl) (fun _ _ _ h => h) (Or.inl ⟨by rfl, ?yn2⟩) hHeld ?_
  case yn2 => (intro w' hSw; (try dsimp only at hSw); go_simp); (try with_reducible rfl)
  try simp only [Act.put, List.setIfInBounds_toArray, List.set_cons_zero, List.set_cons_succ]
  refine wpAnyH_take (i := 2) (v := ?vn3) rfl (by kernel_rfl) (by kernel_rfl) (by kernel_rfl) (fun _ _ _ h => h) (Or.inl ⟨by rfl, ?yn3⟩) hHeld ?_
  case yn3 => (intro w' hSw; (try dsimp only at hSw); go_simp); (try with_reducible rfl)
  try simp only [Act.put, List.setIfInBounds_toArray, List.set_cons_zero, List.set_cons_succ]
  refine wpAnyH_take (i := 3) (v := ?vn4) rfl (by kernel_rfl) (by kernel_rfl) (by kernel_rfl) (fun _ _ _ h => h) (Or.inl ⟨by rfl, ?yn4⟩) hHeld ?_
  case yn4 => (intro w' hSw; (try dsimp only at hSw); go_simp); (try with_reducible rfl)
  try simp only [Act.put, List.setIfInBounds_toArray, List.set_cons_zero, List.set_cons_succ]
  refine wpAnyH_take (i := 4) (v := ?vn5) rfl (by kernel_rfl) (by kernel_rfl) (by kernel_rfl) (fun _ _ _ h => h) (Or.inl ⟨by rfl, ?yn5⟩) hHeld ?_
  case yn5 => (intro w' hSw; (try dsimp only at hSw); go_simp); (try with_reducible rfl)
  try simp only [Act.put, List.setIfInBounds_toArray, List.set_cons_zero, List.set_cons_succ]
  refine wpAnyH_take (i := 5) (v := ?vn6) rfl (by kernel_rfl) (by kernel_rfl) (by kernel_rfl) (fun _ _ _ h => h) (Or.inl ⟨by rfl, ?yn6⟩) hHeld ?_
  case yn6 => (intro w' hSw; (try dsimp only at hSw); go_simp); (try with_reducible rfl)
  try simp only [Act.put, List.setIfInBounds_toArray, List.set_cons_zero, List.set_cons_succ]
  refine wpAnyH_take (i := 6) (v := ?vn7) rfl (by kernel_rfl) (by kernel_rfl) (by kernel_rfl) (fun _ _ _ h => h) (Or.inl ⟨by rfl, ?yn7⟩) hHeld ?_
  case yn7 => (intro w' hSw; (try dsimp only at hSw); go_simp); (try with_reducible rfl)
  try simp only [Act.put, List.setIfInBounds_toArray, List.set_cons_zero, List.set_cons_succ]
  refine wpAnyH_take (i := 7) (v := ?vn8) rfl (by kernel_rfl) (by kernel_rfl) (by kernel_rfl) (fun _ _ _ h => h) (Or.inl ⟨by rfl, ?yn8⟩) hHeld ?_
  case yn8 => (intro w' hSw; (try dsimp only at hSw); go_simp); (try with_reducible rfl)
  try simp only [Act.put, List.setIfInBounds_toArray, List.set_cons_zero, List.set_cons_succ]
  refine wpAnyH_done (by kernel_rfl) ?_ _
  go_wp2_with fail
  go_ret
  exact ⟨⟨x, rfl⟩, rfl⟩
end Go.Proofs.YtnlobmepajakcaaGreatDoor
