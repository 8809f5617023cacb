/- The reader of qcir in memory: declare, known; no condition / The reader's rows in memory: gates, their lines, the prefix; no condition. -/
import Derived.Test.YtnlobmepajakcaaGreatDoorZScanC
import Derived.Test.YtnlobmepajakcaaGreatDoorZQs
set_option linter.unusedVariables false
set_option linter.unusedSimpArgs false
namespace Go.Proofs.YtnlobmepajakcaaGreatDoor
open Go.RowKit Go.Shelf

structure RdCells (cs : Array Value) (pv gv av : Value) (R : RS) : Prop where
  size : cs.size = 65546
  pre : cs[0]? = some pv
  gat : cs[1]? = some gv
  out : cs[2]? = some (.int .i64 R.out)
  seen : ∀ i, i < 65537 → cs[3 + i]? = some (.bool (R.seen i))
  vars : cs[65540]? = some (.int .i64 (R.vars : Int))
  lits : cs[65541]? = some (.int .i64 (R.lits : Int))
  begun : cs[65542]? = some (.bool R.begun)
  done : cs[65543]? = some (.bool R.done)
  at_ : cs[65544]? = some av
  outAt : cs[65545]? = some (.int .i64 (R.outAt : Int))
/-- The reader's block. -/
def RdAt (w : World) (r : Nat) (pv gv av : Value) (R : RS) : Prop := ∃ cs, w.heap[r]? = some (.cells cs 80 (0, 0)) ∧ RdCells cs pv gv av R
theorem RdAt.lt {w : World} {r : Nat} {pv gv av : Value} {R : RS} (h : RdAt w r pv gv av R) : r < w.heap.size := by
  obtain ⟨cs, h1, _⟩ := h
  exact (Array.getElem?_eq_some_iff.1 h1).1
theorem RdAt.heap {w w' : World} {r : Nat} {pv gv av : Value} {R : RS} (h : RdAt w r pv gv av R) (e : w'.heap[r]? = w.heap[r]?) : RdAt w' r pv gv av R := by
  obtain ⟨cs, h1, h2⟩ := h
  exact ⟨cs, e.trans h1, h2⟩
theorem RdAt.grown {w w' : World} {r : Nat} {pv gv av : Value} {R : RS} (h : RdAt w r pv gv av R) {row : Option Nat} (hg : w.grownBy w' row) (hne : row ≠ some r) : RdAt w' r pv gv av R :=
  h.heap (hg.block r h.lt (fun e => hne e.symm))
theorem RdAt.free {w : World} {r : Nat} {pv gv av : Value} {R : RS} (h : RdAt w r pv gv av R) (k : Nat) : w.frozen? ⟨r, k, none⟩ = false := by
  obtain ⟨cs, h1, _⟩ := h
  exact frozen_of_row w r k cs 80 h1
section
variable {w : World} {r : Nat} {pv gv av : Value} {R : RS}
theorem RdAt.cPre (h : RdAt w r pv gv av R) : w.cell? ⟨r, 0, none⟩ = some pv := by obtain ⟨cs, h1, h2⟩ := h; exact cell_row h1 h2.pre
theorem RdAt.cGat (h : RdAt w r pv gv av R) : w.cell? ⟨r, 1, none⟩ = some gv := by obtain ⟨cs, h1, h2⟩ := h; exact cell_row h1 h2.gat
theorem RdAt.cOut (h : RdAt w r pv gv av R) : w.cell? ⟨r, 2, none⟩ = some (.int .i64 R.out) := by obtain ⟨cs, h1, h2⟩ := h; exact cell_row h1 h2.out
theorem RdAt.cSeen (h : RdAt w r pv gv av R) (i : Nat) (hi : i < 65537) : w.cell? ⟨r, 3 + i, none⟩ = some (.bool (R.seen i)) := by obtain ⟨cs, h1, h2⟩ := h; exact cell_row h1 (h2.seen i hi)
theorem RdAt.cVars (h : RdAt w r pv gv av R) : w.cell? ⟨r, 65540, none⟩ = some (.int .i64 (R.vars : Int)) := by obtain ⟨cs, h1, h2⟩ := h; exact cell_row h1 h2.vars
theorem RdAt.cLits (h : RdAt w r pv gv av R) : w.cell? ⟨r, 65541, none⟩ = some (.int .i64 (R.lits : Int)) := by obtain ⟨cs, h1, h2⟩ := h; exact cell_row h1 h2.lits
theorem RdAt.cBegun (h : RdAt w r pv gv av R) : w.cell? ⟨r, 65542, none⟩ = some (.bool R.begun) := by obtain ⟨cs, h1, h2⟩ := h; exact cell_row h1 h2.begun
theorem RdAt.cDone (h : RdAt w r pv gv av R) : w.cell? ⟨r, 65543, none⟩ = some (.bool R.done) := by obtain ⟨cs, h1, h2⟩ := h; exact cell_row h1 h2.done
theorem RdAt.cAt (h : RdAt w r pv gv av R) : w.cell? ⟨r, 65544, none⟩ = some av := by obtain ⟨cs, h1, h2⟩ := h; exact cell_row h1 h2.at_
theorem RdAt.cOutAt (h : RdAt w r pv gv av R) : w.cell? ⟨r, 65545, none⟩ = some (.int .i64 (R.outAt : Int)) := by obtain ⟨cs, h1, h2⟩ := h; exact cell_row h1 h2.outAt
end
theorem RdAt.put {w : World} {r : Nat} {pv gv av pv' gv' av' : Value} {R R' : RS} (h : RdAt w r pv gv av R) (k : Nat) (v : Value)
    (hc : ∀ cs, RdCells cs pv gv av R → RdCells (cs.setIfInBounds k v) pv' gv' av' R') : RdAt (w.setCell ⟨r, k, none⟩ v) r pv' gv' av' R' := by
  obtain ⟨cs, h1, h2⟩ := h
  exact ⟨_, row_set h1 v, hc cs h2⟩
theorem set_at {cs : Array Value} {k i : Nat} {v u : Value} (hk : k < cs.size) (h : i ≠ k → cs[i]? = some u) (e : i = k → v = u) : (cs.setIfInBounds k v)[i]? = some u := by
  rw [Array.getElem?_setIfInBounds]
  by_cases hik : k = i
  · rw [if_pos hik, if_pos (hik ▸ hk), e hik.symm]
  · rw [if_neg hik, h (fun e => hik e.symm)]
section
variable {cs : Array Value} {pv gv av : Value} {R : RS}
theorem RdCells.setPre (h : RdCells cs pv gv av R) (v : Value) (p : List PBlock) : RdCells (cs.setIfInBounds 0 v) v gv av { R with pre := p } := by
  have hs := h.size
  exact ⟨by simpa using hs, set_at (by omega) (fun e => absurd rfl e) (fun _ => rfl), set_at (by omega) (fun _ => h.gat) (by omega), set_at (by omega) (fun _ => h.out) (by omega), fun i hi => set_at (by omega) (fun _ => h.seen i hi) (by omega),
    set_at (by omega) (fun _ => h.vars) (by omega), set_at (by omega) (fun _ => h.lits) (by omega), set_at (by omega) (fun _ => h.begun) (by omega), set_at (by omega) (fun _ => h.done) (by omega), set_at (by omega) (fun _ => h.at_) (by omega), set_at (by omega) (fun _ => h.outAt) (by omega)⟩
theorem RdCells.setGat (h : RdCells cs pv gv av R) (v : Value) (g : List PGate) : RdCells (cs.setIfInBounds 1 v) pv v av { R with gates := g } := by
  have hs := h.size
  exact ⟨by simpa using hs, set_at (by omega) (fun _ => h.pre) (by omega), set_at (by omega) (fun e => absurd rfl e) (fun _ => rfl), set_at (by omega) (fun _ => h.out) (by omega), fun i hi => set_at (by omega) (fun _ => h.seen i hi) (by omega),
    set_at (by omega) (fun _ => h.vars) (by omega), set_at (by omega) (fun _ => h.lits) (by omega), set_at (by omega) (fun _ => h.begun) (by omega), set_at (by omega) (fun _ => h.done) (by omega), set_at (by omega) (fun _ => h.at_) (by omega), set_at (by omega) (fun _ => h.outAt) (by omega)⟩
theorem RdCells.setOut (h : RdCells cs pv gv av R) (x : Int) : RdCells (cs.setIfInBounds 2 (.int .i64 x)) pv gv av { R with out := x } := by
  have hs := h.size
  exact ⟨by simpa using hs, set_at (by omega) (fun _ => h.pre) (by omega), set_at (by omega) (fun _ => h.gat) (by omega), set_at (by omega) (fun e => absurd rfl e) (fun _ => rfl), fun i hi => set_at (by omega) (fun _ => h.seen i hi) (by omega),
    set_at (by omega) (fun _ => h.vars) (by omega), set_at (by omega) (fun _ => h.lits) (by omega), set_at (by omega) (fun _ => h.begun) (by omega), set_at (by omega) (fun _ => h.done) (by omega), set_at (by omega) (fun _ => h.at_) (by omega), set_at (by omega) (fun _ => h.outAt) (by omega)⟩
theorem RdCells.setSeen (h : RdCells cs pv gv av R) (k : Nat) (hk : k < 65537) (b : Bool) : RdCells (cs.setIfInBounds (3 + k) (.bool b)) pv gv av { R with seen := upd R.seen k b } := by
  have hs := h.size
  refine ⟨by simpa using hs, set_at (by omega) (fun _ => h.pre) (by omega), set_at (by omega) (fun _ => h.gat) (by omega), set_at (by omega) (fun _ => h.out) (by omega), fun i hi => ?_,
    set_at (by omega) (fun _ => h.vars) (by omega), set_at (by omega) (fun _ => h.lits) (by omega), set_at (by omega) (fun _ => h.begun) (by omega), set_at (by omega) (fun _ => h.done) (by omega), set_at (by omega) (fun _ => h.at_) (by omega), set_at (by omega) (fun _ => h.outAt) (by omega)⟩
  refine set_at (by omega) (fun e => ?_) (fun e => ?_)
  · rw [h.seen i hi]
    unfold upd
    simp only []
    rw [if_neg (by omega)]
  · have : i = k := by omega
    subst this
    unfold upd
    simp
theorem RdCells.setVars (h : RdCells cs pv gv av R) (x : Nat) : RdCells (cs.setIfInBounds 65540 (.int .i64 (x : Int))) pv gv av { R with vars := x } := by
  have hs := h.size
  exact ⟨by simpa using hs, set_at (by omega) (fun _ => h.pre) (by omega), set_at (by omega) (fun _ => h.gat) (by omega), set_at (by omega) (fun _ => h.out) (by omega), fun i hi => set_at (by omega) (fun _ => h.seen i hi) (by omega),
    set_at (by omega) (fun e => absurd rfl e) (fun _ => rfl), set_at (by omega) (fun _ => h.lits) (by omega), set_at (by omega) (fun _ => h.begun) (by omega), set_at (by omega) (fun _ => h.done) (by omega), set_at (by omega) (fun _ => h.at_) (by omega), set_at (by omega) (fun _ => h.outAt) (by omega)⟩
theorem RdCells.setLits (h : RdCells cs pv gv av R) (x : Nat) : RdCells (cs.setIfInBounds 65541 (.int .i64 (x : Int))) pv gv av { R with lits := x } := by
  have hs := h.size
  exact ⟨by simpa using hs, set_at (by omega) (fun _ => h.pre) (by omega), set_at (by omega) (fun _ => h.gat) (by omega), set_at (by omega) (fun _ => h.out) (by omega), fun i hi => set_at (by omega) (fun _ => h.seen i hi) (by omega),
    set_at (by omega) (fun _ => h.vars) (by omega), set_at (by omega) (fun e => absurd rfl e) (fun _ => rfl), set_at (by omega) (fun _ => h.begun) (by omega), set_at (by omega) (fun _ => h.done) (by omega), set_at (by omega) (fun _ => h.at_) (by omega), set_at (by omega) (fun _ => h.outAt) (by omega)⟩
theorem RdCells.setBegun (h : RdCells cs pv gv av R) (x : Bool) : RdCells (cs.setIfInBounds 65542 (.bool x)) pv gv av { R with begun := x } := by
  have hs := h.size
  exact ⟨by simpa using hs, set_at (by omega) (fun _ => h.pre) (by omega), set_at (by omega) (fun _ => h.gat) (by omega), set_at (by omega) (fun _ => h.out) (by omega), fun i hi => set_at (by omega) (fun _ => h.seen i hi) (by omega),
    set_at (by omega) (fun _ => h.vars) (by omega), set_at (by omega) (fun _ => h.lits) (by omega), set_at (by omega) (fun e => absurd rfl e) (fun _ => rfl), set_at (by omega) (fun _ => h.done) (by omega), set_at (by omega) (fun _ => h.at_) (by omega), set_at (by omega) (fun _ => h.outAt) (by omega)⟩
theorem RdCells.setDone (h : RdCells cs pv gv av R) (x : Bool) : RdCells (cs.setIfInBounds 65543 (.bool x)) pv gv av { R with done := x } := by
  have hs := h.size
  exact ⟨by simpa using hs, set_at (by omega) (fun _ => h.pre) (by omega), set_at (by omega) (fun _ => h.gat) (by omega), set_at (by omega) (fun _ => h.out) (by omega), fun i hi => set_at (by omega) (fun _ => h.seen i hi) (by omega),
    set_at (by omega) (fun _ => h.vars) (by omega), set_at (by omega) (fun _ => h.lits) (by omega), set_at (by omega) (fun _ => h.begun) (by omega), set_at (by omega) (fun e => absurd rfl e) (fun _ => rfl), set_at (by omega) (fun _ => h.at_) (by omega), set_at (by omega) (fun _ => h.outAt) (by omega)⟩
theorem RdCells.setAt (h : RdCells cs pv gv av R) (v : Value) (l : List Nat) : RdCells (cs.setIfInBounds 65544 v) pv gv v { R with at_ := l } := by
  have hs := h.size
  exact ⟨by simpa using hs, set_at (by omega) (fun _ => h.pre) (by omega), set_at (by omega) (fun _ => h.gat) (by omega), set_at (by omega) (fun _ => h.out) (by omega), fun i hi => set_at (by omega) (fun _ => h.seen i hi) (by omega),
    set_at (by omega) (fun _ => h.vars) (by omega), set_at (by omega) (fun _ => h.lits) (by omega), set_at (by omega) (fun _ => h.begun) (by omega), set_at (by omega) (fun _ => h.done) (by omega), set_at (by omega) (fun e => absurd rfl e) (fun _ => rfl), set_at (by omega) (fun _ => h.outAt) (by omega)⟩
theorem RdCells.setOutAt (h : RdCells cs pv gv av R) (x : Nat) : RdCells (cs.setIfInBounds 65545 (.int .i64 (x : Int))) pv gv av { R with outAt := x } := by
  have hs := h.size
  exact ⟨by simpa using hs, set_at (by omega) (fun _ => h.pre) (by omega), set_at (by omega) (fun _ => h.gat) (by omega), set_at (by omega) (fun _ => h.out) (by omega), fun i hi => set_at (by omega) (fun _ => h.seen i hi) (by omega),
    set_at (by omega) (fun _ => h.vars) (by omega), set_at (by omega) (fun _ => h.lits) (by omega), set_at (by omega) (fun _ => h.begun) (by omega), set_at (by omega) (fun _ => h.done) (by omega), set_at (by omega) (fun _ => h.at_) (by omega), set_at (by omega) (fun e => absurd rfl e) (fun _ => rfl)⟩
end
set_option maxRecDepth 100000 in
theorem declare_any (r : Nat) (pv gv av : Value) (R : RS) (k : Nat) (w : World) (h : RdAt w r pv gv av R) (hk : k < 65537) :
    Calls Tryz.prog 128 #[.pointer (some ⟨r, 0, none⟩), .int .i64 (k : Int)] w fun e w' => e = .returned (.bool (!R.seen k)) ∧ RdAt w' r pv gv av { R with seen := upd R.seen k true } ∧ w.grownBy w' (some r) := by
  have c1 := h.cSeen k hk
  have f1 := h.free (3 + k)
  have hki : (k : Int) < 65537 := by omega
  go_enter Tryz.func128, Tryz.ntmps128
  go_wp2_with fail
  go_ret
  exact ⟨rfl, h.put _ _ (fun cs hc => hc.setSeen k hk true), grown_setCell w ⟨r, 3 + k, none⟩ _⟩
section
variable {ops : Array Oper} {rest : List Oper} {o : Oper} {a : Act} {Q : Exit → Act → World → Prop}
theorem step_max {W : World} (hgd : o.guard = none) (s x : Operand) (ho : o.op = .call { callee := .builtin .max, args := #[s, x], argTypes := #[3, 3] }) (i j k : Int) (hs : a.eval s = .int .i64 i) (hx : a.eval x = .int .i64 j)
    (hk : (if j > i then j else i) = k) (h : wpList Tryz.prog ops Q rest (a.put o.dst (.int .i64 k)) W) : wpList Tryz.prog ops Q (o :: rest) a W :=
  wpList_plain hgd fun K hK => by
    have hr : (Builtin.max_ #[3, 3] o.type #[.int .i64 i, .int .i64 j]).run Tryz.prog W = .ok (.int .i64 k) W := by
      unfold Builtin.max_
      simp only [List.foldlM_cons, List.foldlM_nil, Builtin.max2]
      rw [hk]
      rfl
    unfold Oper.wp execOp
    simp only [ho, resolve, invoke, builtin, Sem.run_bind, Sem.run_pure, Result.andThen_ok, List.map_toArray, List.map_cons, List.map_nil, hs, hx, hr]
    exact hK _ _ h
end
set_option maxRecDepth 100000 in
theorem known42_any (r : Nat) (pv gv av : Value) (R : RS) (x : Int) (w : World) (h : RdAt w r pv gv av R) (h1 : -65536 ≤ x) (h2 : x ≤ 65536) :
    Calls Tryz.prog 42 #[.pointer (some ⟨r, 0, none⟩), .int .i64 x] w fun e w' => e = .returned (.bool (R.seen (absN x))) ∧ w' = w := by
  have hk := absN_lt x
  have c1 := h.cSeen _ hk
  have hw : wrap64 (-x) = -x := w64 _ ⟨by omega, by omega⟩
  have hm : (if wrap64 (-x) > x then wrap64 (-x) else x) = (absN x : Int) := by
    rw [hw, absN_cast]
    unfold absI
    split <;> split <;> (try split) <;> (try split) <;> omega
  generalize absN x = k at *
  have hki : (k : Int) < 65537 := by omega
  have HM := hid hm
  clear hm hw h1 h2
  go_enter Tryz.func42, Tryz.ntmps42
  go_wp2_with (first | (refine step_max rfl _ _ rfl x (wrap64 (-x)) (k : Int) rfl rfl HM.out ?_) | fail)
  go_ret
  exact ⟨rfl, rfl⟩
end Go.Proofs.YtnlobmepajakcaaGreatDoor
namespace Go.Proofs.YtnlobmepajakcaaGreatDoor
open Go.RowKit Go.Shelf

/-- What a function of the reader leaves as it is: all blocks below n₀ but the reader's. -/
structure Fr (n₀ r : Nat) (w w' : World) : Prop where
  os : w'.os = w.os
  tape : w'.tape = w.tape
  output : w'.output = w.output
  size : w.heap.size ≤ w'.heap.size
  block : ∀ k, k < n₀ → k ≠ r → w'.heap[k]? = w.heap[k]?
theorem Fr.refl (n₀ r : Nat) (w : World) : Fr n₀ r w w := ⟨rfl, rfl, rfl, Nat.le_refl _, fun _ _ _ => rfl⟩
theorem Fr.trans {n₀ r : Nat} {a b c : World} (h : Fr n₀ r a b) (k : Fr n₀ r b c) : Fr n₀ r a c :=
  ⟨k.os.trans h.os, k.tape.trans h.tape, k.output.trans h.output, Nat.le_trans h.size k.size, fun i hi hr => (k.block i hi hr).trans (h.block i hi hr)⟩
theorem Fr.grown {n₀ r : Nat} {a b c : World} {row : Option Nat} (h : Fr n₀ r a b) (hn : n₀ ≤ b.heap.size) (hg : b.grownBy c row) (hr : ∀ k, row = some k → k = r ∨ n₀ ≤ k) : Fr n₀ r a c :=
  h.trans ⟨hg.os, hg.tape, hg.output, hg.size, fun i hi hne => hg.block i (by omega) (fun e => by rcases hr i e.symm with h | h <;> omega)⟩
theorem Fr.below {n₀ r : Nat} {a b : World} (h : Below n₀ a b) : Fr n₀ r a b := ⟨h.os, h.tape, h.output, h.size, fun i hi _ => h.block i hi⟩
theorem Fr.toBelow {n₀ r n : Nat} {a b : World} (h : Fr n₀ r a b) (hn : n ≤ n₀) (hr : n ≤ r) : Below n a b :=
  ⟨h.os, h.tape, h.output, h.size, fun i hi => h.block i (by omega) (by omega)⟩
theorem Env.fr {w w' : World} {n₀ r : Nat} (h : Env w) (hf : Fr n₀ r w w') (h1 : 9 ≤ n₀) (h2 : 9 ≤ r) : Env w' :=
  h.heap (fun i hi => hf.block i (by omega) (by omega)) (Nat.le_trans h.size hf.size)

theorem row_kept {w w' : World} {base : Nat} {e : TypeId} {size n : Nat} {v : Value} {xs : List Value} (h : w.ownsRow base e size v n xs) (hk : ∀ k, base ≤ k → k < w.heap.size → v.ownBlock = some k → w'.heap[k]? = w.heap[k]?) : w'.ownsRow base e size v n xs := by
  rcases h with ⟨k1, k2 | ⟨g, cap, cur, k2, k3, k4, k5⟩⟩
  · exact ⟨k1, .inl k2⟩
  · exact ⟨k1, .inr ⟨g, cap, cur, k2, k3, (hk g k3 (Array.getElem?_eq_some_iff.1 k4).1 (by rw [k2]; rfl)).trans k4, k5⟩⟩
theorem ints_same {w w' : World} {v : Value} {xs : List Int} (h : IntsAt w v xs) (hk : 0 < xs.length → ∀ b, v.ownBlock = some b → w'.heap[b]? = w.heap[b]?) : IntsAt w' v xs := by
  obtain ⟨A, c, rfl, k1, k2, k3⟩ := h
  refine ⟨A, c, rfl, k1, k2, fun hp => ?_⟩
  obtain ⟨b, off, rfl, k4⟩ := k3 hp
  exact ⟨b, off, rfl, fun j x hx => ⟨(World.cell?_of_block (hk hp b rfl)).trans (k4 j x hx).1, (k4 j x hx).2⟩⟩
def natI (ns : List Nat) : List Int := ns.map (fun (n : Nat) => (n : Int))
/-- The rows of the gates and of their lines; the literals lie in blocks of their own. -/
def GA (w : World) (base : Nat) (gv av : Value) (gs : List PGate) (ns : List Nat) : Prop :=
  ∃ (ts : List GT) (L : Nat → Prop), ts.length = gs.length ∧ w.ownsRow base 88 3 gv gs.length (gcells ts) ∧ w.ownsRow base 3 1 av ns.length (nums (natI ns)) ∧
    (∀ b, L b → base ≤ b ∧ b < w.heap.size ∧ gv.ownBlock ≠ some b ∧ av.ownBlock ≠ some b) ∧ (∀ b, av.ownBlock = some b → gv.ownBlock ≠ some b) ∧
    ∀ (i : Nat) (t : GT) (g : PGate), ts[i]? = some t → gs[i]? = some g →
      t.1 = g.var ∧ t.2.1 = g.kind ∧ (I64 g.var ∧ 0 ≤ g.kind ∧ g.kind ≤ 255) ∧ IntsAt w (.slice t.2.2.1 t.2.2.2.1 t.2.2.2.2) g.ins ∧
      (0 < g.ins.length → ∀ b, (Value.slice t.2.2.1 t.2.2.2.1 t.2.2.2.2).ownBlock = some b → L b)
theorem GA.nil (w : World) (base : Nat) : GA w base (.slice none 0 0) (.slice none 0 0) [] [] :=
  ⟨[], fun _ => False, rfl, World.ownsRow_nil _ _ _ _, World.ownsRow_nil _ _ _ _, fun _ h => h.elim, fun b h => (by cases h), fun i t g h => (by simp at h)⟩
theorem GA.stay {w : World} {base : Nat} {gv av : Value} {gs : List PGate} {ns : List Nat} (h : GA w base gv av gs ns) : StayAt w base gv gs := by
  obtain ⟨ts, L, h1, h2, h3, h4, h5, h6⟩ := h
  exact ⟨ts, h1, h2, fun i t g ht hg => by
    obtain ⟨a1, a2, a3, a4, a5⟩ := h6 i t g ht hg
    exact ⟨a1, a2, a3, a4, fun hp b hb => ⟨(h4 b (a5 hp b hb)).2.2.1, (h4 b (a5 hp b hb)).1, (h4 b (a5 hp b hb)).2.1⟩⟩⟩
theorem GA.ats {w : World} {base : Nat} {gv av : Value} {gs : List PGate} {ns : List Nat} (h : GA w base gv av gs ns) : w.ownsRow base 3 1 av ns.length (nums (natI ns)) := by
  obtain ⟨ts, L, h1, h2, h3, h4, h5, h6⟩ := h
  exact h3
/-- From base on nothing has turned. -/
theorem GA.keep {w w' : World} {base : Nat} {gv av : Value} {gs : List PGate} {ns : List Nat} (h : GA w base gv av gs ns) (hs : w.heap.size ≤ w'.heap.size) (hk : ∀ k, base ≤ k → k < w.heap.size → w'.heap[k]? = w.heap[k]?) : GA w' base gv av gs ns := by
  obtain ⟨ts, L, h1, h2, h3, h4, h5, h6⟩ := h
  refine ⟨ts, L, h1, row_kept h2 (fun k a b _ => hk k a b), row_kept h3 (fun k a b _ => hk k a b), fun b hb => ⟨(h4 b hb).1, Nat.lt_of_lt_of_le (h4 b hb).2.1 hs, (h4 b hb).2.2⟩, h5, fun i t g ht hg => ?_⟩
  obtain ⟨a1, a2, a3, a4, a5⟩ := h6 i t g ht hg
  exact ⟨a1, a2, a3, ints_same a4 (fun hp b hb => hk b (h4 b (a5 hp b hb)).1 (h4 b (a5 hp b hb)).2.1), a5⟩
/-- A gate is appended. -/
theorem GA.pushG {w w1 : World} {base n : Nat} {gv gv1 av : Value} {gs : List PGate} {ns : List Nat} {x : PGate} {A : Option Addr} {m c : Nat} (h : GA w base gv av gs ns)
    (h64 : I64 x.var ∧ 0 ≤ x.kind ∧ x.kind ≤ 255) (hi : IntsAt w (.slice A m c) x.ins) (hf : ∀ b, (Value.slice A m c).ownBlock = some b → n ≤ b ∧ b < w.heap.size)
    (hbn : base ≤ n) (hgn : ∀ b, gv.ownBlock = some b → b < n) (han : ∀ b, av.ownBlock = some b → b < n)
    (hrow : ∀ xs, w.ownsRow base 88 3 gv gs.length xs → w1.ownsRow base 88 3 gv1 (gs.length + 1) (xs ++ [.int .i64 x.var, .int .u8 x.kind, .slice A m c]))
    (hg : w.grownBy w1 gv.ownBlock) (hv1 : ∀ b, gv1.ownBlock = some b → gv.ownBlock = some b ∨ w.heap.size ≤ b) : GA w1 base gv1 av (gs ++ [x]) ns := by
  obtain ⟨ts, L, h1, h2, h3, h4, h5, h6⟩ := h
  have nv1 : ∀ b, gv.ownBlock ≠ some b → b < w.heap.size → gv1.ownBlock ≠ some b := fun b hb hlt e => by
    rcases hv1 b e with h | h
    · exact hb h
    · omega
  have kept : ∀ b, b < w.heap.size → gv.ownBlock ≠ some b → w1.heap[b]? = w.heap[b]? := fun b hb hne => hg.block b hb (fun e => hne e.symm)
  refine ⟨ts ++ [(x.var, x.kind, A, m, c)], fun b => L b ∨ (Value.slice A m c).ownBlock = some b, by simp [h1], ?_, row_kept h3 (fun k _ hk e => kept k hk (h5 k e)), fun b hb => ?_, fun b hb => ?_, fun i t g ht hgi => ?_⟩
  · rw [gcells_snoc, List.length_append]; exact hrow _ h2
  · rcases hb with hb | hb
    · exact ⟨(h4 b hb).1, Nat.lt_of_lt_of_le (h4 b hb).2.1 hg.size, nv1 b (h4 b hb).2.2.1 (h4 b hb).2.1, (h4 b hb).2.2.2⟩
    · have := hf b hb
      exact ⟨by omega, Nat.lt_of_lt_of_le this.2 hg.size, nv1 b (fun e => by have := hgn b e; omega) this.2, fun e => by have := han b e; omega⟩
  · exact nv1 b (h5 b hb) (h3.lt b hb).2
  · by_cases hlt : i < ts.length
    · rw [List.getElem?_append_left hlt] at ht
      rw [List.getElem?_append_left (by omega)] at hgi
      obtain ⟨a1, a2, a3, a4, a5⟩ := h6 i t g ht hgi
      exact ⟨a1, a2, a3, ints_same a4 (fun hp b hb => kept b (h4 b (a5 hp b hb)).2.1 (h4 b (a5 hp b hb)).2.2.1), fun hp b hb => .inl (a5 hp b hb)⟩
    · have hil : i = ts.length := by have := (List.getElem?_eq_some_iff.1 ht).1; simp at this; omega
      subst hil
      rw [List.getElem?_concat_length] at ht
      rw [h1, List.getElem?_concat_length] at hgi
      injection ht with ht; injection hgi with hgi
      subst ht; subst hgi
      exact ⟨rfl, rfl, h64, ints_same hi (fun hp b hb => kept b (hf b hb).2 (fun e => by have := hgn b e; have := hf b hb; omega)), fun hp b hb => .inr hb⟩
/-- A line is appended. -/
theorem GA.pushA {w w1 : World} {base : Nat} {gv av av1 : Value} {gs : List PGate} {ns : List Nat} (x : Nat) (h : GA w base gv av gs ns)
    (hrow : w1.ownsRow base 3 1 av1 (ns.length + 1) (nums (natI ns) ++ [.int .i64 (x : Int)])) (hg : w.grownBy w1 av.ownBlock) (hv1 : ∀ b, av1.ownBlock = some b → av.ownBlock = some b ∨ w.heap.size ≤ b) : GA w1 base gv av1 gs (ns ++ [x]) := by
  obtain ⟨ts, L, h1, h2, h3, h4, h5, h6⟩ := h
  have kept : ∀ b, b < w.heap.size → av.ownBlock ≠ some b → w1.heap[b]? = w.heap[b]? := fun b hb hne => hg.block b hb (fun e => hne e.symm)
  refine ⟨ts, L, h1, row_kept h2 (fun k _ hk e => kept k hk (fun e' => h5 k e' e)), ?_, fun b hb => ⟨(h4 b hb).1, Nat.lt_of_lt_of_le (h4 b hb).2.1 hg.size, (h4 b hb).2.2.1, fun e => ?_⟩, fun b hb e => ?_, fun i t g ht hgi => ?_⟩
  · rw [List.length_append]
    have e : nums (natI (ns ++ [x])) = nums (natI ns) ++ [.int .i64 (x : Int)] := by unfold natI nums; simp
    rw [e]; exact hrow
  · rcases hv1 b e with h | h
    · exact (h4 b hb).2.2.2 h
    · have := (h4 b hb).2.1; omega
  · rcases hv1 b hb with h | h
    · exact h5 b h e
    · have := (h2.lt b e).2; omega
  · obtain ⟨a1, a2, a3, a4, a5⟩ := h6 i t g ht hgi
    exact ⟨a1, a2, a3, ints_same a4 (fun hp b hb => kept b (h4 b (a5 hp b hb)).2.1 (h4 b (a5 hp b hb)).2.2.2), a5⟩
end Go.Proofs.YtnlobmepajakcaaGreatDoor
