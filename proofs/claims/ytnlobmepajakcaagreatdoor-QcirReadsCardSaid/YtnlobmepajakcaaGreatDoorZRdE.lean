/- The three results of Read of qcir, in cells; no condition. -/
import Derived.Test.YtnlobmepajakcaaGreatDoorZRdN
import Derived.Test.YtnlobmepajakcaaGreatDoorZRdL
set_option linter.unusedVariables false
set_option linter.unusedSimpArgs false
namespace Go.Proofs.YtnlobmepajakcaaGreatDoor
open Go.RowKit Go.Shelf

/-- The blocks of Read's results. -/
def Res3 (z : Nat) (v0 v1 v2 x y : Value) (W : World) : Prop :=
  W.heap[z]? = some (.cells #[v0, v1, v2] 40 (0, 0)) ∧ W.heap[z + 1]? = some (.cells #[x] 3 (0, 0)) ∧ W.heap[z + 2]? = some (.cells #[y] 41 (0, 0))
theorem Res3.heap {z : Nat} {v0 v1 v2 x y : Value} {W W' : World} (h : Res3 z v0 v1 v2 x y W) (hk : ∀ k, z ≤ k → k < z + 3 → W'.heap[k]? = W.heap[k]?) : Res3 z v0 v1 v2 x y W' :=
  ⟨(hk _ (Nat.le_refl _) (by omega)).trans h.1, (hk _ (by omega) (by omega)).trans h.2.1, (hk _ (by omega) (by omega)).trans h.2.2⟩
theorem u41 : Tryz.prog.underlying 41 = some (.int .i64) := by kernel_rfl
theorem u3 : Tryz.prog.underlying 3 = some (.int .i64) := by kernel_rfl
theorem loadInt {w : World} {b : Nat} {v : Value} {t ty : TypeId} (hu : Tryz.prog.underlying ty = some (.int .i64)) (h : w.heap[b]? = some (.cells #[v] t (0, 0))) : (loadVar ty ⟨b, 0, none⟩).run Tryz.prog w = .ok v w := by
  have hagg : (isAgg ty).run Tryz.prog w = .ok false w := by
    unfold isAgg
    rw [Sem.run_bind, run_underlying hu w]
    rfl
  have hc : w.cell? ⟨b, 0, none⟩ = some v := cell_row h rfl
  simp [loadVar, Sem.run_bind, hagg, go_sem, hc]
theorem load40 {w : World} {g : Nat} {v0 v1 v2 : Value} {t : TypeId} (h : w.heap[g]? = some (.cells #[v0, v1, v2] t (0, 0))) : (loadVar 40 ⟨g, 0, none⟩).run Tryz.prog w = .ok (.agg #[v0, v1, v2]) w :=
  run_loadVar_row w g t 40 _ (0, 0) _ h Tryz.underlying40 rfl (by kernel_rfl)
theorem results3 {fn : Func} {p q u : Tmp} (h : fn.results = #[.cell p 40, .cell q 3, .cell u 41]) (tmps : Array Value) (w : World) (z : Nat) {v0 v1 v2 x y : Value} (hr : Res3 z v0 v1 v2 x y w)
    (hp : tmps.getD p undef = .pointer (some ⟨z, 0, none⟩)) (hq : tmps.getD q undef = .pointer (some ⟨z + 1, 0, none⟩)) (hu : tmps.getD u undef = .pointer (some ⟨z + 2, 0, none⟩)) :
    (results fn tmps).run Tryz.prog w = .ok (.tuple #[.agg #[v0, v1, v2], x, y]) w := by
  have hp' : tmps[p]?.getD undef = .pointer (some ⟨z, 0, none⟩) := by simpa using hp
  have hq' : tmps[q]?.getD undef = .pointer (some ⟨z + 1, 0, none⟩) := by simpa using hq
  have hu' : tmps[u]?.getD undef = .pointer (some ⟨z + 2, 0, none⟩) := by simpa using hu
  simp [results, h, hp', hq', hu', asAddr, load40 hr.1, loadInt u3 hr.2.1, loadInt u41 hr.2.2, Result.andThen, Sem.run_bind]
/-- What leaves all blocks but three be. -/
structure But3 (z : Nat) (w w' : World) : Prop where
  os : w'.os = w.os
  tape : w'.tape = w.tape
  output : w'.output = w.output
  size : w.heap.size ≤ w'.heap.size
  block : ∀ k, k < w.heap.size → k ≠ z → k ≠ z + 1 → k ≠ z + 2 → w'.heap[k]? = w.heap[k]?
theorem But3.grown {z : Nat} {a b c : World} {row : Option Nat} (h : But3 z a b) (hg : b.grownBy c row) (hr : ∀ k, row = some k → k = z ∨ k = z + 1 ∨ k = z + 2 ∨ a.heap.size ≤ k) : But3 z a c :=
  ⟨hg.os.trans h.os, hg.tape.trans h.tape, hg.output.trans h.output, Nat.le_trans h.size hg.size, fun k hk h0 h1 h2 =>
    (hg.block k (Nat.lt_of_lt_of_le hk h.size) (fun e => by rcases hr k e.symm with h | h | h | h <;> omega)).trans (h.block k hk h0 h1 h2)⟩
theorem But3.refl (z : Nat) (w : World) : But3 z w w := ⟨rfl, rfl, rfl, Nat.le_refl _, fun _ _ _ _ _ => rfl⟩
theorem But3.below {z n : Nat} {w w' : World} (h : But3 z w w') (hn : n ≤ z) (hs : n ≤ w.heap.size) : Below n w w' :=
  ⟨h.os, h.tape, h.output, h.size, fun k hk => h.block k (by omega) (by omega) (by omega) (by omega)⟩
/-- The three results are stored. -/
theorem put3 {z : Nat} {a0 a1 a2 b c : Value} {W : World} (h : Res3 z a0 a1 a2 b c W) (v0 v1 v2 x y : Value) :
    (W.frozen? ⟨z, 0, none⟩ = false ∧ W.cell? ⟨z, 0, none⟩ = some a0) ∧ ((W.setCell ⟨z, 0, none⟩ v0).frozen? ⟨z, 1, none⟩ = false ∧ (W.setCell ⟨z, 0, none⟩ v0).cell? ⟨z, 1, none⟩ = some a1) ∧
    (((W.setCell ⟨z, 0, none⟩ v0).setCell ⟨z, 1, none⟩ v1).frozen? ⟨z, 2, none⟩ = false ∧ ((W.setCell ⟨z, 0, none⟩ v0).setCell ⟨z, 1, none⟩ v1).cell? ⟨z, 2, none⟩ = some a2) ∧
    ((((W.setCell ⟨z, 0, none⟩ v0).setCell ⟨z, 1, none⟩ v1).setCell ⟨z, 2, none⟩ v2).frozen? ⟨z + 1, 0, none⟩ = false ∧ (((W.setCell ⟨z, 0, none⟩ v0).setCell ⟨z, 1, none⟩ v1).setCell ⟨z, 2, none⟩ v2).cell? ⟨z + 1, 0, none⟩ = some b) ∧
    (((((W.setCell ⟨z, 0, none⟩ v0).setCell ⟨z, 1, none⟩ v1).setCell ⟨z, 2, none⟩ v2).setCell ⟨z + 1, 0, none⟩ x).frozen? ⟨z + 2, 0, none⟩ = false ∧ ((((W.setCell ⟨z, 0, none⟩ v0).setCell ⟨z, 1, none⟩ v1).setCell ⟨z, 2, none⟩ v2).setCell ⟨z + 1, 0, none⟩ x).cell? ⟨z + 2, 0, none⟩ = some c) ∧
    Res3 z v0 v1 v2 x y (((((W.setCell ⟨z, 0, none⟩ v0).setCell ⟨z, 1, none⟩ v1).setCell ⟨z, 2, none⟩ v2).setCell ⟨z + 1, 0, none⟩ x).setCell ⟨z + 2, 0, none⟩ y) ∧
    But3 z W (((((W.setCell ⟨z, 0, none⟩ v0).setCell ⟨z, 1, none⟩ v1).setCell ⟨z, 2, none⟩ v2).setCell ⟨z + 1, 0, none⟩ x).setCell ⟨z + 2, 0, none⟩ y) := by
  obtain ⟨h0, h1, h2⟩ := h
  obtain ⟨f0, c0, f1, c1, f2, c2, r, g⟩ := put25 h0 v0 v1 v2
  refine ⟨⟨f0, c0⟩, ⟨f1, c1⟩, ⟨f2, c2⟩, ?_⟩
  have b3 : But3 z W (((W.setCell ⟨z, 0, none⟩ v0).setCell ⟨z, 1, none⟩ v1).setCell ⟨z, 2, none⟩ v2) := (But3.refl z W).grown g (fun k e => .inl (by injection e with e; exact e.symm))
  have r1 := row_grown h1 g (by intro e; injection e with e; omega)
  have r2 := row_grown h2 g (by intro e; injection e with e; omega)
  clear f0 c0 f1 c1 f2 c2 g
  generalize ((W.setCell ⟨z, 0, none⟩ v0).setCell ⟨z, 1, none⟩ v1).setCell ⟨z, 2, none⟩ v2 = W3 at *
  have g1 : W3.grownBy (W3.setCell ⟨z + 1, 0, none⟩ x) (some (z + 1)) := grown_setCell W3 ⟨z + 1, 0, none⟩ x
  have r1' : (W3.setCell ⟨z + 1, 0, none⟩ x).heap[z + 1]? = some (.cells #[x] 3 (0, 0)) := row_set r1 (i := 0) x
  have r2' := row_grown r2 g1 (by intro e; injection e with e; omega)
  have r0' := row_grown r g1 (by intro e; injection e with e; omega)
  have b4 := b3.grown g1 (fun k e => .inr (.inl (by injection e with e; exact e.symm)))
  refine ⟨⟨frozen_of_row _ _ 0 _ _ r1, cell_row r1 rfl⟩, ?_⟩
  clear g1
  generalize W3.setCell ⟨z + 1, 0, none⟩ x = W4 at *
  have g2 : W4.grownBy (W4.setCell ⟨z + 2, 0, none⟩ y) (some (z + 2)) := grown_setCell W4 ⟨z + 2, 0, none⟩ y
  have r2'' : (W4.setCell ⟨z + 2, 0, none⟩ y).heap[z + 2]? = some (.cells #[y] 41 (0, 0)) := row_set r2' (i := 0) y
  exact ⟨⟨frozen_of_row _ _ 0 _ _ r2', cell_row r2' rfl⟩, ⟨row_grown r0' g2 (by intro e; injection e with e; omega), row_grown r1' g2 (by intro e; injection e with e; omega), r2''⟩, b4.grown g2 (fun k e => .inr (.inr (.inl (by injection e with e; exact e.symm))))⟩
/-- What Read hands back. -/
def ReadPost (w : World) (res : PNet × Nat × Int) (e : Ending) (w' : World) : Prop := Below w.heap.size w w' ∧ ∃ vn, e = .returned (.tuple #[vn, .int .i64 (res.2.1 : Int), .int .i64 res.2.2]) ∧ NetAt w' vn res.1
end Go.Proofs.YtnlobmepajakcaaGreatDoor
