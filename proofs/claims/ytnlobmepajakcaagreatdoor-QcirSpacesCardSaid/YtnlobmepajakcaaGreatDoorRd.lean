/- The reader of qcir in memory: declare, known; no condition. -/
import Derived.Test.YtnlobmepajakcaaGreatDoorScanC
import Derived.Test.YtnlobmepajakcaaGreatDoorQs
set_option linter.unusedVariables false
set_option linter.unusedSimpArgs false
namespace Go.Proofs.YtnlobmepajakcaaGreatDoor
open Go.RowKit Go.Shelf

structure RdCells (cs : Array Value) (pv gv av : Value) (R : RS) : Prop where
  size : cs.size = 65546
  pre : cs[0]? = some pv
  gat : cs[1]? = some gv
  out : cs[2]? = some (.int .i64 R.out)
  seen : ∀ i, i < 65537 → cs[3 + i]? = some (.bool (R.seen i))
  vars : cs[65540]? = some (.int .i64 (R.vars : Int))
  lits : cs[65541]? = some (.int .i64 (R.lits : Int))
  begun : cs[65542]? = some (.bool R.begun)
  done : cs[65543]? = some (.bool R.done)
  at_ : cs[65544]? = some av
  outAt : cs[65545]? = some (.int .i64 (R.outAt : Int))
/-- The reader's block. -/
def RdAt (w : World) (r : Nat) (pv gv av : Value) (R : RS) : Prop := ∃ cs, w.heap[r]? = some (.cells cs 80 (0, 0)) ∧ RdCells cs pv gv av R
theorem RdAt.lt {w : World} {r : Nat} {pv gv av : Value} {R : RS} (h : RdAt w r pv gv av R) : r < w.heap.size := by
  obtain ⟨cs, h1, _⟩ := h
  exact (Array.getElem?_eq_some_iff.1 h1).1
theorem RdAt.heap {w w' : World} {r : Nat} {pv gv av : Value} {R : RS} (h : RdAt w r pv gv av R) (e : w'.heap[r]? = w.heap[r]?) : RdAt w' r pv gv av R := by
  obtain ⟨cs, h1, h2⟩ := h
  exact ⟨cs, e.trans h1, h2⟩
theorem RdAt.grown {w w' : World} {r : Nat} {pv gv av : Value} {R : RS} (h : RdAt w r pv gv av R) {row : Option Nat} (hg : w.grownBy w' row) (hne : row ≠ some r) : RdAt w' r pv gv av R :=
  h.heap (hg.block r h.lt (fun e => hne e.symm))
theorem RdAt.free {w : World} {r : Nat} {pv gv av : Value} {R : RS} (h : RdAt w r pv gv av R) (k : Nat) : w.frozen? ⟨r, k, none⟩ = false := by
  obtain ⟨cs, h1, _⟩ := h
  exact frozen_of_row w r k cs 80 h1
section
variable {w : World} {r : Nat} {pv gv av : Value} {R : RS}
theorem RdAt.cPre (h : RdAt w r pv gv av R) : w.cell? ⟨r, 0, none⟩ = some pv := by obtain ⟨cs, h1, h2⟩ := h; exact cell_row h1 h2.pre
theorem RdAt.cGat (h : RdAt w r pv gv av R) : w.cell? ⟨r, 1, none⟩ = some gv := by obtain ⟨cs, h1, h2⟩ := h; exact cell_row h1 h2.gat
theorem RdAt.cOut (h : RdAt w r pv gv av R) : w.cell? ⟨r, 2, none⟩ = some (.int .i64 R.out) := by obtain ⟨cs, h1, h2⟩ := h; exact cell_row h1 h2.out
theorem RdAt.cSeen (h : RdAt w r pv gv av R) (i : Nat) (hi : i < 65537) : w.cell? ⟨r, 3 + i, none⟩ = some (.bool (R.seen i)) := by obtain ⟨cs, h1, h2⟩ := h; exact cell_row h1 (h2.seen i hi)
theorem RdAt.cVars (h : RdAt w r pv gv av R) : w.cell? ⟨r, 65540, none⟩ = some (.int .i64 (R.vars : Int)) := by obtain ⟨cs, h1, h2⟩ := h; exact cell_row h1 h2.vars
theorem RdAt.cLits (h : RdAt w r pv gv av R) : w.cell? ⟨r, 65541, none⟩ = some (.int .i64 (R.lits : Int)) := by obtain ⟨cs, h1, h2⟩ := h; exact cell_row h1 h2.lits
theorem RdAt.cBegun (h : RdAt w r pv gv av R) : w.cell? ⟨r, 65542, none⟩ = some (.bool R.begun) := by obtain ⟨cs, h1, h2⟩ := h; exact cell_row h1 h2.begun
theorem RdAt.cDone (h : RdAt w r pv gv av R) : w.cell? ⟨r, 65543, none⟩ = some (.bool R.done) := by obtain ⟨cs, h1, h2⟩ := h; exact cell_row h1 h2.done
theorem RdAt.cAt (h : RdAt w r pv gv av R) : w.cell? ⟨r, 65544, none⟩ = some av := by obtain ⟨cs, h1, h2⟩ := h; exact cell_row h1 h2.at_
theorem RdAt.cOutAt (h : RdAt w r pv gv av R) : w.cell? ⟨r, 65545, none⟩ = some (.int .i64 (R.outAt : Int)) := by obtain ⟨cs, h1, h2⟩ := h; exact cell_row h1 h2.outAt
end
theorem RdAt.put {w : World} {r : Nat} {pv gv av pv' gv' av' : Value} {R R' : RS} (h : RdAt w r pv gv av R) (k : Nat) (v : Value)
    (hc : ∀ cs, RdCells cs pv gv av R → RdCells (cs.setIfInBounds k v) pv' gv' av' R') : RdAt (w.setCell ⟨r, k, none⟩ v) r pv' gv' av' R' := by
  obtain ⟨cs, h1, h2⟩ := h
  exact ⟨_, row_set h1 v, hc cs h2⟩
theorem set_at {cs : Array Value} {k i : Nat} {v u : Value} (hk : k < cs.size) (h : i ≠ k → cs[i]? = some u) (e : i = k → v = u) : (cs.setIfInBounds k v)[i]? = some u := by
  rw [Array.getElem?_setIfInBounds]
  by_cases hik : k = i
  · rw [if_pos hik, if_pos (hik ▸ hk), e hik.symm]
  · rw [if_neg hik, h (fun e => hik e.symm)]
section
variable {cs : Array Value} {pv gv av : Value} {R : RS}
theorem RdCells.setPre (h : RdCells cs pv gv av R) (v : Value) (p : List PBlock) : RdCells (cs.setIfInBounds 0 v) v gv av { R with pre := p } := by
  have hs := h.size
  exact ⟨by simpa using hs, set_at (by omega) (fun e => absurd rfl e) (fun _ => rfl), set_at (by omega) (fun _ => h.gat) (by omega), set_at (by omega) (fun _ => h.out) (by omega), fun i hi => set_at (by omega) (fun _ => h.seen i hi) (by omega),
    set_at (by omega) (fun _ => h.vars) (by omega), set_at (by omega) (fun _ => h.lits) (by omega), set_at (by omega) (fun _ => h.begun) (by omega), set_at (by omega) (fun _ => h.done) (by omega), set_at (by omega) (fun _ => h.at_) (by omega), set_at (by omega) (fun _ => h.outAt) (by omega)⟩
theorem RdCells.setGat (h : RdCells cs pv gv av R) (v : Value) (g : List PGate) : RdCells (cs.setIfInBounds 1 v) pv v av { R with gates := g } := by
  have hs := h.size
  exact ⟨by simpa using hs, set_at (by omega) (fun _ => h.pre) (by omega), set_at (by omega) (fun e => absurd rfl e) (fun _ => rfl), set_at (by omega) (fun _ => h.out) (by omega), fun i hi => set_at (by omega) (fun _ => h.seen i hi) (by omega),
    set_at (by omega) (fun _ => h.vars) (by omega), set_at (by omega) (fun _ => h.lits) (by omega), set_at (by omega) (fun _ => h.begun) (by omega), set_at (by omega) (fun _ => h.done) (by omega), set_at (by omega) (fun _ => h.at_) (by omega), set_at (by omega) (fun _ => h.outAt) (by omega)⟩
theorem RdCells.setOut (h : RdCells cs pv gv av R) (x : Int) : RdCells (cs.setIfInBounds 2 (.int .i64 x)) pv gv av { R with out := x } := by
  have hs := h.size
  exact ⟨by simpa using hs, set_at (by omega) (fun _ => h.pre) (by omega), set_at (by omega) (fun _ => h.gat) (by omega), set_at (by omega) (fun e => absurd rfl e) (fun _ => rfl), fun i hi => set_at (by omega) (fun _ => h.seen i hi) (by omega),
    set_at (by omega) (fun _ => h.vars) (by omega), set_at (by omega) (fun _ => h.lits) (by omega), set_at (by omega) (fun _ => h.begun) (by omega), set_at (by omega) (fun _ => h.done) (by omega), set_at (by omega) (fun _ => h.at_) (by omega), set_at (by omega) (fun _ => h.outAt) (by omega)⟩
theorem RdCells.setSeen (h : RdCells cs pv gv av R) (k : Nat) (hk : k < 65537) (b : Bool) : RdCells (cs.setIfInBounds (3 + k) (.bool b)) pv gv av { R with seen := upd R.seen k b } := by
  have hs := h.size
  refine ⟨by simpa using hs, set_at (by omega) (fun _ => h.pre) (by omega), set_at (by omega) (fun _ => h.gat) (by omega), set_at (by omega) (fun _ => h.out) (by omega), fun i hi => ?_,
    set_at (by omega) (fun _ => h.vars) (by omega), set_at (by omega) (fun _ => h.lits) (by omega), set_at (by omega) (fun _ => h.begun) (by omega), set_at (by omega) (fun _ => h.done) (by omega), set_at (by omega) (fun _ => h.at_) (by omega), set_at (by omega) (fun _ => h.outAt) (by omega)⟩
  refine set_at (by omega) (fun e => ?_) (fun e => ?_)
  · rw [h.seen i hi]
    unfold upd
    simp only []
    rw [if_neg (by omega)]
  · have : i = k := by omega
    subst this
    unfold upd
    simp
theorem RdCells.setVars (h : RdCells cs pv gv av R) (x : Nat) : RdCells (cs.setIfInBounds 65540 (.int .i64 (x : Int))) pv gv av { R with vars := x } := by
  have hs := h.size
  exact ⟨by simpa using hs, set_at (by omega) (fun _ => h.pre) (by omega), set_at (by omega) (fun _ => h.gat) (by omega), set_at (by omega) (fun _ => h.out) (by omega), fun i hi => set_at (by omega) (fun _ => h.seen i hi) (by omega),
    set_at (by omega) (fun e => absurd rfl e) (fun _ => rfl), set_at (by omega) (fun _ => h.lits) (by omega), set_at (by omega) (fun _ => h.begun) (by omega), set_at (by omega) (fun _ => h.done) (by omega), set_at (by omega) (fun _ => h.at_) (by omega), set_at (by omega) (fun _ => h.outAt) (by omega)⟩
theorem RdCells.setLits (h : RdCells cs pv gv av R) (x : Nat) : RdCells (cs.setIfInBounds 65541 (.int .i64 (x : Int))) pv gv av { R with lits := x } := by
  have hs := h.size
  exact ⟨by simpa using hs, set_at (by omega) (fun _ => h.pre) (by omega), set_at (by omega) (fun _ => h.gat) (by omega), set_at (by omega) (fun _ => h.out) (by omega), fun i hi => set_at (by omega) (fun _ => h.seen i hi) (by omega),
    set_at (by omega) (fun _ => h.vars) (by omega), set_at (by omega) (fun e => absurd rfl e) (fun _ => rfl), set_at (by omega) (fun _ => h.begun) (by omega), set_at (by omega) (fun _ => h.done) (by omega), set_at (by omega) (fun _ => h.at_) (by omega), set_at (by omega) (fun _ => h.outAt) (by omega)⟩
theorem RdCells.setBegun (h : RdCells cs pv gv av R) (x : Bool) : RdCells (cs.setIfInBounds 65542 (.bool x)) pv gv av { R with begun := x } := by
  have hs := h.size
  exact ⟨by simpa using hs, set_at (by omega) (fun _ => h.pre) (by omega), set_at (by omega) (fun _ => h.gat) (by omega), set_at (by omega) (fun _ => h.out) (by omega), fun i hi => set_at (by omega) (fun _ => h.seen i hi) (by omega),
    set_at (by omega) (fun _ => h.vars) (by omega), set_at (by omega) (fun _ => h.lits) (by omega), set_at (by omega) (fun e => absurd rfl e) (fun _ => rfl), set_at (by omega) (fun _ => h.done) (by omega), set_at (by omega) (fun _ => h.at_) (by omega), set_at (by omega) (fun _ => h.outAt) (by omega)⟩
theorem RdCells.setDone (h : RdCells cs pv gv av R) (x : Bool) : RdCells (cs.setIfInBounds 65543 (.bool x)) pv gv av { R with done := x } := by
  have hs := h.size
  exact ⟨by simpa using hs, set_at (by omega) (fun _ => h.pre) (by omega), set_at (by omega) (fun _ => h.gat) (by omega), set_at (by omega) (fun _ => h.out) (by omega), fun i hi => set_at (by omega) (fun _ => h.seen i hi) (by omega),
    set_at (by omega) (fun _ => h.vars) (by omega), set_at (by omega) (fun _ => h.lits) (by omega), set_at (by omega) (fun _ => h.begun) (by omega), set_at (by omega) (fun e => absurd rfl e) (fun _ => rfl), set_at (by omega) (fun _ => h.at_) (by omega), set_at (by omega) (fun _ => h.outAt) (by omega)⟩
theorem RdCells.setAt (h : RdCells cs pv gv av R) (v : Value) (l : List Nat) : RdCells (cs.setIfInBounds 65544 v) pv gv v { R with at_ := l } := by
  have hs := h.size
  exact ⟨by simpa using hs, set_at (by omega) (fun _ => h.pre) (by omega), set_at (by omega) (fun _ => h.gat) (by omega), set_at (by omega) (fun _ => h.out) (by omega), fun i hi => set_at (by omega) (fun _ => h.seen i hi) (by omega),
    set_at (by omega) (fun _ => h.vars) (by omega), set_at (by omega) (fun _ => h.lits) (by omega), set_at (by omega) (fun _ => h.begun) (by omega), set_at (by omega) (fun _ => h.done) (by omega), set_at (by omega) (fun e => absurd rfl e) (fun _ => rfl), set_at (by omega) (fun _ => h.outAt) (by omega)⟩
theorem RdCells.setOutAt (h : RdCells cs pv gv av R) (x : Nat) : RdCells (cs.setIfInBounds 65545 (.int .i64 (x : Int))) pv gv av { R with outAt := x } := by
  have hs := h.size
  exact ⟨by simpa using hs, set_at (by omega) (fun _ => h.pre) (by omega), set_at (by omega) (fun _ => h.gat) (by omega), set_at (by omega) (fun _ => h.out) (by omega), fun i hi => set_at (by omega) (fun _ => h.seen i hi) (by omega),
    set_at (by omega) (fun _ => h.vars) (by omega), set_at (by omega) (fun _ => h.lits) (by omega), set_at (by omega) (fun _ => h.begun) (by omega), set_at (by omega) (fun _ => h.done) (by omega), set_at (by omega) (fun _ => h.at_) (by omega), set_at (by omega) (fun e => absurd rfl e) (fun _ => rfl)⟩
end
set_option maxRecDepth 100000 in
theorem declare_any (r : Nat) (pv gv av : Value) (R : RS) (k : Nat) (w : World) (h : RdAt w r pv gv av R) (hk : k < 65537) :
    Calls Tryz.prog 128 #[.pointer (some ⟨r, 0, none⟩), .int .i64 (k : Int)] w fun e w' => e = .returned (.bool (!R.seen k)) ∧ RdAt w' r pv gv av { R with seen := upd R.seen k true } ∧ w.grownBy w' (some r) := by
  have c1 := h.cSeen k hk
  have f1 := h.free (3 + k)
  have hki : (k : Int) < 65537 := by omega
  go_enter Tryz.func128, Tryz.ntmps128
  go_wp2_with fail
  go_ret
  exact ⟨rfl, h.put _ _ (fun cs hc => hc.setSeen k hk true), grown_setCell w ⟨r, 3 + k, none⟩ _⟩
section
variable {ops : Array Oper} {rest : List Oper} {o : Oper} {a : Act} {Q : Exit → Act → World → Prop}
theorem step_max {W : World} (hgd : o.guard = none) (s x : Operand) (ho : o.op = .call { callee := .builtin .max, args := #[s, x], argTypes := #[3, 3] }) (i j k : Int) (hs : a.eval s = .int .i64 i) (hx : a.eval x = .int .i64 j)
    (hk : (if j > i then j else i) = k) (h : wpList Tryz.prog ops Q rest (a.put o.dst (.int .i64 k)) W) : wpList Tryz.prog ops Q (o :: rest) a W :=
  wpList_plain hgd fun K hK => by
    have hr : (Builtin.max_ #[3, 3] o.type #[.int .i64 i, .int .i64 j]).run Tryz.prog W = .ok (.int .i64 k) W := by
      unfold Builtin.max_
      simp only [List.foldlM_cons, List.foldlM_nil, Builtin.max2]
      rw [hk]
      rfl
    unfold Oper.wp execOp
    simp only [ho, resolve, invoke, builtin, Sem.run_bind, Sem.run_pure, Result.andThen_ok, List.map_toArray, List.map_cons, List.map_nil, hs, hx, hr]
    exact hK _ _ h
end
set_option maxRecDepth 100000 in
theorem known42_any (r : Nat) (pv gv av : Value) (R : RS) (x : Int) (w : World) (h : RdAt w r pv gv av R) (h1 : -65536 ≤ x) (h2 : x ≤ 65536) :
    Calls Tryz.prog 42 #[.pointer (some ⟨r, 0, none⟩), .int .i64 x] w fun e w' => e = .returned (.bool (R.seen (absN x))) ∧ w' = w := by
  have hk := absN_lt x
  have c1 := h.cSeen _ hk
  have hw : wrap64 (-x) = -x := w64 _ ⟨by omega, by omega⟩
  have hm : (if wrap64 (-x) > x then wrap64 (-x) else x) = (absN x : Int) := by
    rw [hw, absN_cast]
    unfold absI
    split <;> split <;> (try split) <;> (try split) <;> omega
  generalize absN x = k at *
  have hki : (k : Int) < 65537 := by omega
  have HM := hid hm
  clear hm hw h1 h2
  go_enter Tryz.func42, Tryz.ntmps42
  go_wp2_with (first | (refine step_max rfl _ _ rfl x (wrap64 (-x)) (k : Int) rfl rfl HM.out ?_) | fail)
  go_ret
  exact ⟨rfl, rfl⟩
end Go.Proofs.YtnlobmepajakcaaGreatDoor
