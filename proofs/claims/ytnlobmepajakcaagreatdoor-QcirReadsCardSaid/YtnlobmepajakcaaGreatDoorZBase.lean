/- The words that the contracts of this seat use: what a slice, a block, a gate, a net, a set reads as in memory; no condition. -/
import Derived.Test.YtnlobmepajakcaaGreatDoorProg
import Derived.WalkKit
import Derived.WalkSpells
import Derived.WalkLawsBesides
import Derived.Deep.QuietTactic
import Derived.Deep.LoopGhost
import Derived.BigQuiet
import Derived.KernelRfl
import Derived.Shelf.Abstract
set_option linter.unusedVariables false
set_option linter.unusedSimpArgs false
namespace Go.Proofs.YtnlobmepajakcaaGreatDoor
open Go.RowKit Go.Shelf

theorem hid {p : Prop} (h : p) : Hid p := h
theorem ret_int {k : IntKind} {a b : Int} (h : a = b) : Ending.returned (.int k a) = .returned (.int k b) := by rw [h]
theorem ret_bool {a b : Bool} (h : a = b) : Ending.returned (.bool a) = .returned (.bool b) := by rw [h]
/-- An equation that the walk's simp doesn't see. -/
structure Rem {α : Type} (a b : α) : Prop where
  out : a = b

structure PBlock where
  ex : Bool
  vars : List Int
  deriving DecidableEq, Inhabited
structure PGate where
  var : Int
  kind : Int
  ins : List Int
  deriving DecidableEq, Inhabited
structure PNet where
  pre : List PBlock
  gates : List PGate
  out : Int
  deriving DecidableEq, Inhabited

/-- A slice whose elements (each of sz cells) read as xs. -/
def SlAt {α : Type} (sz : Nat) (R : World → Nat → Nat → α → Prop) (w : World) (v : Value) (xs : List α) : Prop :=
  ∃ A c, v = .slice A xs.length c ∧ xs.length ≤ c ∧ c ≤ 9223372036854775807 ∧
    (0 < xs.length → ∃ b off, A = some ⟨b, off, none⟩ ∧ ∀ j x, xs[j]? = some x → R w b (off + j * sz) x)
def I64 (x : Int) : Prop := -9223372036854775808 ≤ x ∧ x ≤ 9223372036854775807
def IntC (w : World) (b o : Nat) (x : Int) : Prop := w.cell? ⟨b, o, none⟩ = some (.int .i64 x) ∧ I64 x
def BoolC (w : World) (b o : Nat) (x : Bool) : Prop := w.cell? ⟨b, o, none⟩ = some (.bool x)
def IntsAt (w : World) (v : Value) (xs : List Int) : Prop := SlAt 1 IntC w v xs
def BoolsAt (w : World) (v : Value) (xs : List Bool) : Prop := SlAt 1 BoolC w v xs
def BlockC (w : World) (b o : Nat) (x : PBlock) : Prop :=
  w.cell? ⟨b, o, none⟩ = some (.bool x.ex) ∧ ∃ v, w.cell? ⟨b, o + 1, none⟩ = some v ∧ IntsAt w v x.vars
def BlocksAt (w : World) (v : Value) (xs : List PBlock) : Prop := SlAt 2 BlockC w v xs
def GateC (w : World) (b o : Nat) (x : PGate) : Prop :=
  w.cell? ⟨b, o, none⟩ = some (.int .i64 x.var) ∧ w.cell? ⟨b, o + 1, none⟩ = some (.int .u8 x.kind) ∧ I64 x.var ∧ 0 ≤ x.kind ∧ x.kind ≤ 255 ∧
    ∃ v, w.cell? ⟨b, o + 2, none⟩ = some v ∧ IntsAt w v x.ins
def GatesAt (w : World) (v : Value) (xs : List PGate) : Prop := SlAt 3 GateC w v xs
def NetAt (w : World) (v : Value) (N : PNet) : Prop :=
  ∃ vp vg, v = .agg #[vp, vg, .int .i64 N.out] ∧ I64 N.out ∧ BlocksAt w vp N.pre ∧ GatesAt w vg N.gates

/-- What was there is there. -/
def Keeps (w w' : World) : Prop := ∀ a v, w.cell? a = some v → w'.cell? a = some v
theorem Keeps.refl (w : World) : Keeps w w := fun _ _ h => h
theorem Keeps.trans {a b c : World} (h : Keeps a b) (k : Keeps b c) : Keeps a c := fun p v hp => k p v (h p v hp)
theorem keeps_below {w w' : World} (h : Below w.heap.size w w') : Keeps w w' := fun a v hv => (h.cell (World.block_lt_of_cell? w a hv)).trans hv
theorem keeps_alloc (w : World) (o : Obj) : Keeps w (w.alloc o) := keeps_below ((Below.refl _ w).alloc (Nat.le_refl _) o)

theorem SlAt.keep {α : Type} {sz : Nat} {R : World → Nat → Nat → α → Prop} {w w' : World} {v : Value} {xs : List α} (h : SlAt sz R w v xs)
    (hR : ∀ b o x, R w b o x → R w' b o x) : SlAt sz R w' v xs := by
  obtain ⟨A, c, e, h1, h2, h3⟩ := h
  refine ⟨A, c, e, h1, h2, fun hp => ?_⟩
  obtain ⟨b, off, e2, h4⟩ := h3 hp
  exact ⟨b, off, e2, fun j x hx => hR _ _ _ (h4 j x hx)⟩
theorem IntC.keep {w w' : World} {b o : Nat} {x : Int} (h : IntC w b o x) (hk : Keeps w w') : IntC w' b o x := ⟨hk _ _ h.1, h.2⟩
theorem IntsAt.keep {w w' : World} {v : Value} {xs : List Int} (h : IntsAt w v xs) (hk : Keeps w w') : IntsAt w' v xs := SlAt.keep h fun _ _ _ h => h.keep hk
theorem BoolsAt.keep {w w' : World} {v : Value} {xs : List Bool} (h : BoolsAt w v xs) (hk : Keeps w w') : BoolsAt w' v xs := SlAt.keep h fun _ _ _ h => hk _ _ h
theorem BlockC.keep {w w' : World} {b o : Nat} {x : PBlock} (h : BlockC w b o x) (hk : Keeps w w') : BlockC w' b o x := by
  obtain ⟨h1, v, h2, h3⟩ := h
  exact ⟨hk _ _ h1, v, hk _ _ h2, h3.keep hk⟩
theorem BlocksAt.keep {w w' : World} {v : Value} {xs : List PBlock} (h : BlocksAt w v xs) (hk : Keeps w w') : BlocksAt w' v xs := SlAt.keep h fun _ _ _ h => h.keep hk
theorem GateC.keep {w w' : World} {b o : Nat} {x : PGate} (h : GateC w b o x) (hk : Keeps w w') : GateC w' b o x := by
  obtain ⟨h1, h2, h3, h4, h5, v, h6, h7⟩ := h
  exact ⟨hk _ _ h1, hk _ _ h2, h3, h4, h5, v, hk _ _ h6, h7.keep hk⟩
theorem GatesAt.keep {w w' : World} {v : Value} {xs : List PGate} (h : GatesAt w v xs) (hk : Keeps w w') : GatesAt w' v xs := SlAt.keep h fun _ _ _ h => h.keep hk
theorem NetAt.keep {w w' : World} {v : Value} {N : PNet} (h : NetAt w v N) (hk : Keeps w w') : NetAt w' v N := by
  obtain ⟨vp, vg, e, h0, h1, h2⟩ := h
  exact ⟨vp, vg, e, h0, h1.keep hk, h2.keep hk⟩

/-- The shape of a slice that is read. -/
theorem SlAt.form {α : Type} {sz : Nat} {R : World → Nat → Nat → α → Prop} {w : World} {v : Value} {xs : List α} (h : SlAt sz R w v xs) :
    ∃ A c, v = .slice A xs.length c ∧ xs.length ≤ c ∧ c ≤ 9223372036854775807 := by
  obtain ⟨A, c, e, h1, h2, _⟩ := h
  exact ⟨A, c, e, h1, h2⟩
/-- An element of a slice of ints. -/
theorem IntsAt.at_ {w : World} {A : Option Addr} {n c : Nat} {xs : List Int} (h : IntsAt w (.slice A n c) xs) (k : Nat) (x : Int) (hx : xs[k]? = some x) :
    ∃ b off, A = some ⟨b, off, none⟩ ∧ w.cell? ⟨b, off + k, none⟩ = some (.int .i64 x) ∧ I64 x := by
  obtain ⟨A', c', e, h1, h2, h3⟩ := h
  cases e
  obtain ⟨b, off, e2, h4⟩ := h3 (by have := (List.getElem?_eq_some_iff.1 hx).1; omega)
  have := h4 k x hx
  rw [Nat.mul_one] at this
  exact ⟨b, off, e2, this.1, this.2⟩
theorem BoolsAt.at_ {w : World} {A : Option Addr} {n c : Nat} {xs : List Bool} (h : BoolsAt w (.slice A n c) xs) (k : Nat) (x : Bool) (hx : xs[k]? = some x) :
    ∃ b off, A = some ⟨b, off, none⟩ ∧ w.cell? ⟨b, off + k, none⟩ = some (.bool x) := by
  obtain ⟨A', c', e, h1, h2, h3⟩ := h
  cases e
  obtain ⟨b, off, e2, h4⟩ := h3 (by have := (List.getElem?_eq_some_iff.1 hx).1; omega)
  have := h4 k x hx
  rw [Nat.mul_one] at this
  exact ⟨b, off, e2, this⟩
theorem BlocksAt.at_ {w : World} {A : Option Addr} {n c : Nat} {xs : List PBlock} (h : BlocksAt w (.slice A n c) xs) (k : Nat) (x : PBlock) (hx : xs[k]? = some x) :
    ∃ b off v, A = some ⟨b, off, none⟩ ∧ w.cell? ⟨b, off + k * 2, none⟩ = some (.bool x.ex) ∧ w.cell? ⟨b, off + k * 2 + 1, none⟩ = some v ∧ IntsAt w v x.vars := by
  obtain ⟨A', c', e, h1, h2, h3⟩ := h
  cases e
  obtain ⟨b, off, e2, h4⟩ := h3 (by have := (List.getElem?_eq_some_iff.1 hx).1; omega)
  obtain ⟨h5, v, h6, h7⟩ := h4 k x hx
  exact ⟨b, off, v, e2, h5, h6, h7⟩
theorem GatesAt.at_ {w : World} {A : Option Addr} {n c : Nat} {xs : List PGate} (h : GatesAt w (.slice A n c) xs) (k : Nat) (x : PGate) (hx : xs[k]? = some x) :
    ∃ b off v, A = some ⟨b, off, none⟩ ∧ w.cell? ⟨b, off + k * 3, none⟩ = some (.int .i64 x.var) ∧ w.cell? ⟨b, off + k * 3 + 1, none⟩ = some (.int .u8 x.kind) ∧
      w.cell? ⟨b, off + k * 3 + 2, none⟩ = some v ∧ IntsAt w v x.ins ∧ I64 x.var ∧ 0 ≤ x.kind ∧ x.kind ≤ 255 := by
  obtain ⟨A', c', e, h1, h2, h3⟩ := h
  cases e
  obtain ⟨b, off, e2, h4⟩ := h3 (by have := (List.getElem?_eq_some_iff.1 hx).1; omega)
  obtain ⟨h5, h6, h7, h8, h9, v, h10, h11⟩ := h4 k x hx
  exact ⟨b, off, v, e2, h5, h6, h10, h11, h7, h8, h9⟩

theorem nth {α : Type} {xs : List α} {k : Nat} (h : k < xs.length) : ∃ x, xs[k]? = some x ∧ x ∈ xs ∧ xs.drop k = x :: xs.drop (k + 1) :=
  ⟨xs[k], List.getElem?_eq_getElem h, List.getElem_mem h, List.drop_eq_getElem_cons h⟩

def SetAt (w : World) (b t : Nat) (S : Nat → Bool) : Prop :=
  ∃ cs : Array Value, w.heap[b]? = some (.cells cs t (0, 0)) ∧ cs.size = 65537 ∧ ∀ i, i < 65537 → cs[i]? = some (.bool (S i))
theorem SetAt.cell {w : World} {b t : Nat} {S : Nat → Bool} (h : SetAt w b t S) (i : Nat) (hi : i < 65537) : w.cell? ⟨b, i, none⟩ = some (.bool (S i)) := by
  obtain ⟨cs, h1, _, h3⟩ := h
  rw [cell_of_row w b i cs t (0, 0) h1, h3 i hi]
theorem SetAt.free {w : World} {b t : Nat} {S : Nat → Bool} (h : SetAt w b t S) (i : Nat) : w.frozen? ⟨b, i, none⟩ = false := by
  obtain ⟨cs, h1, _, h3⟩ := h
  exact frozen_of_row w b i cs t h1
theorem SetAt.lt {w : World} {b t : Nat} {S : Nat → Bool} (h : SetAt w b t S) : b < w.heap.size := by
  obtain ⟨cs, h1, _, h3⟩ := h
  exact (Array.getElem?_eq_some_iff.1 h1).1
theorem SetAt.heap {w w' : World} {b t : Nat} {S : Nat → Bool} (h : SetAt w b t S) (e : w'.heap[b]? = w.heap[b]?) : SetAt w' b t S := by
  obtain ⟨cs, h1, h2, h3⟩ := h
  exact ⟨cs, e.trans h1, h2, h3⟩
theorem SetAt.below {w w' : World} {b t : Nat} {S : Nat → Bool} (h : SetAt w b t S) (hb : Below w.heap.size w w') : SetAt w' b t S := h.heap (hb.block b h.lt)
theorem SetAt.kept {w w' : World} {b t : Nat} {S : Nat → Bool} (h : SetAt w b t S) {row : Option Nat} (hg : w.grownBy w' row) (hne : row ≠ some b) : SetAt w' b t S :=
  h.heap (hg.block b h.lt (fun e => hne e.symm))
theorem SetAt.alloc {w : World} {b t : Nat} {S : Nat → Bool} (h : SetAt w b t S) (o : Obj) : SetAt (w.alloc o) b t S := h.heap (Below.heap_alloc _ _ _ h.lt)
theorem SetAt.drew {w : World} {b t : Nat} {S : Nat → Bool} (h : SetAt w b t S) : SetAt w.drew b t S := h.heap rfl
theorem SetAt.drewN {w : World} {b t : Nat} {S : Nat → Bool} (h : SetAt w b t S) (n : Nat) : SetAt (w.drewN n) b t S := h.heap rfl
def upd {α : Type} (S : Nat → α) (i : Nat) (x : α) : Nat → α := fun j => if j = i then x else S j
theorem SetAt.store {w : World} {b t : Nat} {S : Nat → Bool} (h : SetAt w b t S) (i : Nat) (x : Bool) : SetAt (w.setCell ⟨b, i, none⟩ (.bool x)) b t (upd S i x) := by
  obtain ⟨cs, h1, h2, h3⟩ := h
  refine ⟨cs.setIfInBounds i (.bool x), heap_setCell_same w b i cs t _ h1, by simp [h2], fun j hj => ?_⟩
  rw [Array.getElem?_setIfInBounds]
  unfold upd
  by_cases e : j = i
  · subst e
    simp [h2, hj]
  · rw [if_neg (fun e' => e e'.symm), if_neg e]
    exact h3 j hj
theorem SetAt.other {w : World} {b t : Nat} {S : Nat → Bool} (h : SetAt w b t S) {a : Addr} (hne : b ≠ a.block) (v : Value) : SetAt (w.setCell a v) b t S :=
  h.heap (heap_setCell_other w a b v hne)
theorem grown_setCell (w : World) (a : Addr) (v : Value) : w.grownBy (w.setCell a v) (some a.block) :=
  ⟨rfl, rfl, rfl, by simp [World.setCell], fun k _ hne => heap_setCell_other w a k v (fun e => hne (by rw [e]))⟩
theorem grown_of_below {w w' : World} (h : Below w.heap.size w w') (row : Option Nat) : w.grownBy w' row := ⟨h.os, h.tape, h.output, h.size, fun i hi _ => h.block i hi⟩
theorem below_drewN {B : Nat} {a w : World} (h : Below B a w) (n : Nat) : Below B a (w.drewN n) := ⟨h.os, h.tape, h.output, h.size, h.block⟩
/-- The lower bound of a chain. -/
theorem below_then {B : Nat} {w w1 w2 : World} (h : Below B w w1) (hB : B ≤ w1.heap.size) (k : Below w1.heap.size w1 w2) : Below B w w2 := h.trans (k.mono hB)

def isF (v : Value) : Bool := match v with | .bool false => true | _ => false
def allF : List Value → Nat → Bool
  | [], n => Nat.beq n 0
  | v :: l, n => match n with | 0 => false | m + 1 => match isF v with | true => allF l m | false => false
theorem allF_eq : ∀ (l : List Value) (n : Nat), allF l n = true → l = List.replicate n (.bool false)
  | [], n, h => by
    have : n = 0 := by simpa [allF] using h
    subst this; rfl
  | v :: l, 0, h => by simp [allF] at h
  | v :: l, m + 1, h => by
    unfold allF at h
    simp only at h
    split at h
    · rename_i hv
      rw [List.replicate_succ, ← allF_eq l m h]
      unfold isF at hv
      split at hv
      · rfl
      · cases hv
    · cases h
theorem z86_all : allF Tryz.zeroCells138.toList 65537 = true := by kernel_rfl
theorem z86 : Tryz.zeroCells138 = (List.replicate 65537 (Value.bool false)).toArray := by
  have h := allF_eq _ _ z86_all
  rw [← h]
theorem set_new (w : World) (t : Nat) : SetAt (w.alloc (.cells Tryz.zeroCells138 t)) w.heap.size t (fun _ => false) := by
  refine ⟨_, heap_alloc_new w _, ?_, fun i hi => ?_⟩
  · rw [z86, List.size_toArray, List.length_replicate]
  · rw [z86, List.getElem?_toArray, List.getElem?_replicate, if_pos hi]

/-- A new block of cells, under a name. -/
theorem new_block (w : World) (cs : Array Value) (t : TypeId) : ∃ w1, w.alloc (.cells cs t) = w1 ∧ (∀ j v, cs[j]? = some v → w1.cell? ⟨w.heap.size, j, none⟩ = some v) ∧
    (∀ j, w1.frozen? ⟨w.heap.size, j, none⟩ = false) ∧ w1.heap.size = w.heap.size + 1 ∧ Below w.heap.size w w1 ∧ w1.heap[w.heap.size]? = some (.cells cs t (0, 0)) :=
  ⟨_, rfl, fun j v e => by rw [cell_of_row _ _ _ _ _ _ (heap_alloc_new w _)]; exact e, fun j => frozen_of_row _ _ _ _ _ (heap_alloc_new w _), World.size_alloc _ _,
    (Below.refl _ w).alloc (Nat.le_refl _) _, heap_alloc_new w _⟩
/-- A cell of a block that is known whole. -/
theorem cell_row {w : World} {b j : Nat} {cs : Array Value} {t : TypeId} {fr : Nat × Nat} (h : w.heap[b]? = some (.cells cs t fr)) {v : Value} (e : cs[j]? = some v) : w.cell? ⟨b, j, none⟩ = some v := by
  rw [cell_of_row _ _ _ _ _ _ h]; exact e
theorem row_below {w w' : World} {b : Nat} {o : Obj} (h : w.heap[b]? = some o) (hb : Below w.heap.size w w') : w'.heap[b]? = some o :=
  (hb.block b (Array.getElem?_eq_some_iff.1 h).1).trans h
theorem row_grown {w w' : World} {b : Nat} {o : Obj} {row : Option Nat} (h : w.heap[b]? = some o) (hg : w.grownBy w' row) (hne : row ≠ some b) : w'.heap[b]? = some o :=
  (hg.block b (Array.getElem?_eq_some_iff.1 h).1 (fun e => hne e.symm)).trans h
theorem row_lt {w : World} {b : Nat} {o : Obj} (h : w.heap[b]? = some o) : b < w.heap.size := (Array.getElem?_eq_some_iff.1 h).1

/-- Arrays of 65,537 ints. -/
def MeanAt (w : World) (b t : Nat) (M : Nat → Int) : Prop :=
  ∃ cs : Array Value, w.heap[b]? = some (.cells cs t (0, 0)) ∧ cs.size = 65537 ∧ ∀ i, i < 65537 → cs[i]? = some (.int .i64 (M i))
theorem MeanAt.cell {w : World} {b t : Nat} {M : Nat → Int} (h : MeanAt w b t M) (i : Nat) (hi : i < 65537) : w.cell? ⟨b, i, none⟩ = some (.int .i64 (M i)) := by
  obtain ⟨cs, h1, _, h3⟩ := h
  rw [cell_of_row w b i cs t (0, 0) h1, h3 i hi]
theorem MeanAt.free {w : World} {b t : Nat} {M : Nat → Int} (h : MeanAt w b t M) (i : Nat) : w.frozen? ⟨b, i, none⟩ = false := by
  obtain ⟨cs, h1, _, h3⟩ := h
  exact frozen_of_row w b i cs t h1
theorem MeanAt.lt {w : World} {b t : Nat} {M : Nat → Int} (h : MeanAt w b t M) : b < w.heap.size := by
  obtain ⟨cs, h1, _, h3⟩ := h
  exact (Array.getElem?_eq_some_iff.1 h1).1
theorem MeanAt.heap {w w' : World} {b t : Nat} {M : Nat → Int} (h : MeanAt w b t M) (e : w'.heap[b]? = w.heap[b]?) : MeanAt w' b t M := by
  obtain ⟨cs, h1, h2, h3⟩ := h
  exact ⟨cs, e.trans h1, h2, h3⟩
theorem MeanAt.below {w w' : World} {b t : Nat} {M : Nat → Int} (h : MeanAt w b t M) (hb : Below w.heap.size w w') : MeanAt w' b t M := h.heap (hb.block b h.lt)
theorem MeanAt.kept {w w' : World} {b t : Nat} {M : Nat → Int} (h : MeanAt w b t M) {row : Option Nat} (hg : w.grownBy w' row) (hne : row ≠ some b) : MeanAt w' b t M :=
  h.heap (hg.block b h.lt (fun e => hne e.symm))
theorem MeanAt.alloc {w : World} {b t : Nat} {M : Nat → Int} (h : MeanAt w b t M) (o : Obj) : MeanAt (w.alloc o) b t M := h.heap (Below.heap_alloc _ _ _ h.lt)
theorem MeanAt.drewN {w : World} {b t : Nat} {M : Nat → Int} (h : MeanAt w b t M) (n : Nat) : MeanAt (w.drewN n) b t M := h.heap rfl
theorem MeanAt.store {w : World} {b t : Nat} {M : Nat → Int} (h : MeanAt w b t M) (i : Nat) (x : Int) : MeanAt (w.setCell ⟨b, i, none⟩ (.int .i64 x)) b t (upd M i x) := by
  obtain ⟨cs, h1, h2, h3⟩ := h
  refine ⟨cs.setIfInBounds i (.int .i64 x), heap_setCell_same w b i cs t _ h1, by simp [h2], fun j hj => ?_⟩
  rw [Array.getElem?_setIfInBounds]
  unfold upd
  by_cases e : j = i
  · subst e
    simp [h2, hj]
  · rw [if_neg (fun e' => e e'.symm), if_neg e]
    exact h3 j hj
end Go.Proofs.YtnlobmepajakcaaGreatDoor
