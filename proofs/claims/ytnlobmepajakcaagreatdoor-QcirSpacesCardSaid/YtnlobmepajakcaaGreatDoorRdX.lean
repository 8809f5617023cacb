/- append of an empty list of whatever address; no condition. -/
import Derived.Test.YtnlobmepajakcaaGreatDoorRdB
set_option linter.unusedVariables false
set_option linter.unusedSimpArgs false
namespace Go.Proofs.YtnlobmepajakcaaGreatDoor
open Go.RowKit Go.Shelf

theorem run_append_empty (base : Nat) (ty : TypeId) {W : World} (v : Value) (n : Nat) (xs : List Value) (hown : W.ownsRow base 3 1 v n xs) (A : Option Addr) (c : Nat) :
    (Builtin.append_ #[48, 48] ty #[v, .slice A 0 c]).run Tryz.prog W = .ok v W := by
  obtain ⟨i0, hi, hzz⟩ := Option.map_eq_some_iff.1 info3
  have ht := Tryz.underlying48
  cases A with
  | none =>
    rcases hown.2 with ⟨rfl, rfl⟩ | ⟨g, cap, cur, rfl, _, _, hnc, _⟩
    · simp [Builtin.append_, run_underlying ht, sizeOf, typeInfo, hi, Builtin.lenOf, Builtin.firstCells]
    · simp [Builtin.append_, run_underlying ht, sizeOf, typeInfo, hi, Builtin.lenOf, Builtin.firstCells, hnc, storeCells]
  | some a =>
    rcases hown.2 with ⟨rfl, rfl⟩ | ⟨g, cap, cur, rfl, _, _, hnc, _⟩
    · simp [Builtin.append_, run_underlying ht, sizeOf, typeInfo, hi, Builtin.lenOf, Builtin.firstCells, loadCells, loadCellsFrom]
    · simp [Builtin.append_, run_underlying ht, sizeOf, typeInfo, hi, Builtin.lenOf, Builtin.firstCells, hnc, storeCells, loadCells, loadCellsFrom]
section
variable {ops : Array Oper} {rest : List Oper} {o : Oper} {a : Act} {Q : Exit → Act → World → Prop}
/-- append of a list that reads as data, an empty one too. -/
theorem append_any {W : World} (base : Nat) (hgd : o.guard = none) (s x : Operand) (ho : o.op = .call { callee := .builtin .append, args := #[s, x], argTypes := #[48, 48] })
    (v : Value) (n : Nat) (xs : List Int) (A : Option Addr) (m cap : Nat) (ys : List Int) (hs : a.eval s = v) (hx : a.eval x = .slice A m cap)
    (HO : W.ownsRow base 3 1 v n (nums xs)) (hi : IntsAt W (.slice A m cap) ys) (hm : m = ys.length) (hbase : base ≤ W.heap.size) (hl : (n + m) * 8 ≤ 140737488355328)
    (h : ∀ v1 w1, w1.ownsRow base 3 1 v1 (n + m) (nums (xs ++ ys)) → W.grownBy w1 v.ownBlock → wpList Tryz.prog ops Q rest (a.put o.dst v1) w1) :
    wpList Tryz.prog ops Q (o :: rest) a W := by
  subst hm
  by_cases hy : ys = []
  · subst hy
    exact step_append_run hgd s x 48 ho v _ v hs hx (run_append_empty base o.type v n (nums xs) HO A cap) (h v W (by simpa using HO) (World.grownBy.refl _ _))
  · obtain ⟨bi, oi, rfl⟩ : ∃ bi oi, A = some ⟨bi, oi, none⟩ := by
      obtain ⟨y, hy, -, -⟩ := nth (List.length_pos_iff.2 hy)
      obtain ⟨bi, oi, e, _⟩ := hi.at_ 0 y hy
      exact ⟨bi, oi, e⟩
    exact append_data base hgd s x ho v n xs bi oi ys.length cap ys hs hx HO hi rfl hbase hl h
end
end Go.Proofs.YtnlobmepajakcaaGreatDoor
