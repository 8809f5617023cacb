/- The reader's rows in memory: gates, their lines, the prefix; no condition. -/
import Derived.Test.YtnlobmepajakcaaGreatDoorRd
set_option linter.unusedVariables false
set_option linter.unusedSimpArgs false
namespace Go.Proofs.YtnlobmepajakcaaGreatDoor
open Go.RowKit Go.Shelf

/-- What a function of the reader leaves as it is: all blocks below n₀ but the reader's. -/
structure Fr (n₀ r : Nat) (w w' : World) : Prop where
  os : w'.os = w.os
  tape : w'.tape = w.tape
  output : w'.output = w.output
  size : w.heap.size ≤ w'.heap.size
  block : ∀ k, k < n₀ → k ≠ r → w'.heap[k]? = w.heap[k]?
theorem Fr.refl (n₀ r : Nat) (w : World) : Fr n₀ r w w := ⟨rfl, rfl, rfl, Nat.le_refl _, fun _ _ _ => rfl⟩
theorem Fr.trans {n₀ r : Nat} {a b c : World} (h : Fr n₀ r a b) (k : Fr n₀ r b c) : Fr n₀ r a c :=
  ⟨k.os.trans h.os, k.tape.trans h.tape, k.output.trans h.output, Nat.le_trans h.size k.size, fun i hi hr => (k.block i hi hr).trans (h.block i hi hr)⟩
theorem Fr.grown {n₀ r : Nat} {a b c : World} {row : Option Nat} (h : Fr n₀ r a b) (hn : n₀ ≤ b.heap.size) (hg : b.grownBy c row) (hr : ∀ k, row = some k → k = r ∨ n₀ ≤ k) : Fr n₀ r a c :=
  h.trans ⟨hg.os, hg.tape, hg.output, hg.size, fun i hi hne => hg.block i (by omega) (fun e => by rcases hr i e.symm with h | h <;> omega)⟩
theorem Fr.below {n₀ r : Nat} {a b : World} (h : Below n₀ a b) : Fr n₀ r a b := ⟨h.os, h.tape, h.output, h.size, fun i hi _ => h.block i hi⟩
theorem Fr.toBelow {n₀ r n : Nat} {a b : World} (h : Fr n₀ r a b) (hn : n ≤ n₀) (hr : n ≤ r) : Below n a b :=
  ⟨h.os, h.tape, h.output, h.size, fun i hi => h.block i (by omega) (by omega)⟩
theorem Env.fr {w w' : World} {n₀ r : Nat} (h : Env w) (hf : Fr n₀ r w w') (h1 : 9 ≤ n₀) (h2 : 9 ≤ r) : Env w' :=
  h.heap (fun i hi => hf.block i (by omega) (by omega)) (Nat.le_trans h.size hf.size)

theorem row_kept {w w' : World} {base : Nat} {e : TypeId} {size n : Nat} {v : Value} {xs : List Value} (h : w.ownsRow base e size v n xs) (hk : ∀ k, base ≤ k → k < w.heap.size → v.ownBlock = some k → w'.heap[k]? = w.heap[k]?) : w'.ownsRow base e size v n xs := by
  rcases h with ⟨k1, k2 | ⟨g, cap, cur, k2, k3, k4, k5⟩⟩
  · exact ⟨k1, .inl k2⟩
  · exact ⟨k1, .inr ⟨g, cap, cur, k2, k3, (hk g k3 (Array.getElem?_eq_some_iff.1 k4).1 (by rw [k2]; rfl)).trans k4, k5⟩⟩
theorem ints_same {w w' : World} {v : Value} {xs : List Int} (h : IntsAt w v xs) (hk : 0 < xs.length → ∀ b, v.ownBlock = some b → w'.heap[b]? = w.heap[b]?) : IntsAt w' v xs := by
  obtain ⟨A, c, rfl, k1, k2, k3⟩ := h
  refine ⟨A, c, rfl, k1, k2, fun hp => ?_⟩
  obtain ⟨b, off, rfl, k4⟩ := k3 hp
  exact ⟨b, off, rfl, fun j x hx => ⟨(World.cell?_of_block (hk hp b rfl)).trans (k4 j x hx).1, (k4 j x hx).2⟩⟩
def natI (ns : List Nat) : List Int := ns.map (fun (n : Nat) => (n : Int))
/-- The rows of the gates and of their lines; the literals lie in blocks of their own. -/
def GA (w : World) (base : Nat) (gv av : Value) (gs : List PGate) (ns : List Nat) : Prop :=
  ∃ (ts : List GT) (L : Nat → Prop), ts.length = gs.length ∧ w.ownsRow base 88 3 gv gs.length (gcells ts) ∧ w.ownsRow base 3 1 av ns.length (nums (natI ns)) ∧
    (∀ b, L b → base ≤ b ∧ b < w.heap.size ∧ gv.ownBlock ≠ some b ∧ av.ownBlock ≠ some b) ∧ (∀ b, av.ownBlock = some b → gv.ownBlock ≠ some b) ∧
    ∀ (i : Nat) (t : GT) (g : PGate), ts[i]? = some t → gs[i]? = some g →
      t.1 = g.var ∧ t.2.1 = g.kind ∧ (I64 g.var ∧ 0 ≤ g.kind ∧ g.kind ≤ 255) ∧ IntsAt w (.slice t.2.2.1 t.2.2.2.1 t.2.2.2.2) g.ins ∧
      (0 < g.ins.length → ∀ b, (Value.slice t.2.2.1 t.2.2.2.1 t.2.2.2.2).ownBlock = some b → L b)
theorem GA.nil (w : World) (base : Nat) : GA w base (.slice none 0 0) (.slice none 0 0) [] [] :=
  ⟨[], fun _ => False, rfl, World.ownsRow_nil _ _ _ _, World.ownsRow_nil _ _ _ _, fun _ h => h.elim, fun b h => (by cases h), fun i t g h => (by simp at h)⟩
theorem GA.stay {w : World} {base : Nat} {gv av : Value} {gs : List PGate} {ns : List Nat} (h : GA w base gv av gs ns) : StayAt w base gv gs := by
  obtain ⟨ts, L, h1, h2, h3, h4, h5, h6⟩ := h
  exact ⟨ts, h1, h2, fun i t g ht hg => by
    obtain ⟨a1, a2, a3, a4, a5⟩ := h6 i t g ht hg
    exact ⟨a1, a2, a3, a4, fun hp b hb => ⟨(h4 b (a5 hp b hb)).2.2.1, (h4 b (a5 hp b hb)).1, (h4 b (a5 hp b hb)).2.1⟩⟩⟩
theorem GA.ats {w : World} {base : Nat} {gv av : Value} {gs : List PGate} {ns : List Nat} (h : GA w base gv av gs ns) : w.ownsRow base 3 1 av ns.length (nums (natI ns)) := by
  obtain ⟨ts, L, h1, h2, h3, h4, h5, h6⟩ := h
  exact h3
/-- From base on nothing has turned. -/
theorem GA.keep {w w' : World} {base : Nat} {gv av : Value} {gs : List PGate} {ns : List Nat} (h : GA w base gv av gs ns) (hs : w.heap.size ≤ w'.heap.size) (hk : ∀ k, base ≤ k → k < w.heap.size → w'.heap[k]? = w.heap[k]?) : GA w' base gv av gs ns := by
  obtain ⟨ts, L, h1, h2, h3, h4, h5, h6⟩ := h
  refine ⟨ts, L, h1, row_kept h2 (fun k a b _ => hk k a b), row_kept h3 (fun k a b _ => hk k a b), fun b hb => ⟨(h4 b hb).1, Nat.lt_of_lt_of_le (h4 b hb).2.1 hs, (h4 b hb).2.2⟩, h5, fun i t g ht hg => ?_⟩
  obtain ⟨a1, a2, a3, a4, a5⟩ := h6 i t g ht hg
  exact ⟨a1, a2, a3, ints_same a4 (fun hp b hb => hk b (h4 b (a5 hp b hb)).1 (h4 b (a5 hp b hb)).2.1), a5⟩
/-- A gate is appended. -/
theorem GA.pushG {w w1 : World} {base n : Nat} {gv gv1 av : Value} {gs : List PGate} {ns : List Nat} {x : PGate} {A : Option Addr} {m c : Nat} (h : GA w base gv av gs ns)
    (h64 : I64 x.var ∧ 0 ≤ x.kind ∧ x.kind ≤ 255) (hi : IntsAt w (.slice A m c) x.ins) (hf : ∀ b, (Value.slice A m c).ownBlock = some b → n ≤ b ∧ b < w.heap.size)
    (hbn : base ≤ n) (hgn : ∀ b, gv.ownBlock = some b → b < n) (han : ∀ b, av.ownBlock = some b → b < n)
    (hrow : ∀ xs, w.ownsRow base 88 3 gv gs.length xs → w1.ownsRow base 88 3 gv1 (gs.length + 1) (xs ++ [.int .i64 x.var, .int .u8 x.kind, .slice A m c]))
    (hg : w.grownBy w1 gv.ownBlock) (hv1 : ∀ b, gv1.ownBlock = some b → gv.ownBlock = some b ∨ w.heap.size ≤ b) : GA w1 base gv1 av (gs ++ [x]) ns := by
  obtain ⟨ts, L, h1, h2, h3, h4, h5, h6⟩ := h
  have nv1 : ∀ b, gv.ownBlock ≠ some b → b < w.heap.size → gv1.ownBlock ≠ some b := fun b hb hlt e => by
    rcases hv1 b e with h | h
    · exact hb h
    · omega
  have kept : ∀ b, b < w.heap.size → gv.ownBlock ≠ some b → w1.heap[b]? = w.heap[b]? := fun b hb hne => hg.block b hb (fun e => hne e.symm)
  refine ⟨ts ++ [(x.var, x.kind, A, m, c)], fun b => L b ∨ (Value.slice A m c).ownBlock = some b, by simp [h1], ?_, row_kept h3 (fun k _ hk e => kept k hk (h5 k e)), fun b hb => ?_, fun b hb => ?_, fun i t g ht hgi => ?_⟩
  · rw [gcells_snoc, List.length_append]; exact hrow _ h2
  · rcases hb with hb | hb
    · exact ⟨(h4 b hb).1, Nat.lt_of_lt_of_le (h4 b hb).2.1 hg.size, nv1 b (h4 b hb).2.2.1 (h4 b hb).2.1, (h4 b hb).2.2.2⟩
    · have := hf b hb
      exact ⟨by omega, Nat.lt_of_lt_of_le this.2 hg.size, nv1 b (fun e => by have := hgn b e; omega) this.2, fun e => by have := han b e; omega⟩
  · exact nv1 b (h5 b hb) (h3.lt b hb).2
  · by_cases hlt : i < ts.length
    · rw [List.getElem?_append_left hlt] at ht
      rw [List.getElem?_append_left (by omega)] at hgi
      obtain ⟨a1, a2, a3, a4, a5⟩ := h6 i t g ht hgi
      exact ⟨a1, a2, a3, ints_same a4 (fun hp b hb => kept b (h4 b (a5 hp b hb)).2.1 (h4 b (a5 hp b hb)).2.2.1), fun hp b hb => .inl (a5 hp b hb)⟩
    · have hil : i = ts.length := by have := (List.getElem?_eq_some_iff.1 ht).1; simp at this; omega
      subst hil
      rw [List.getElem?_concat_length] at ht
      rw [h1, List.getElem?_concat_length] at hgi
      injection ht with ht; injection hgi with hgi
      subst ht; subst hgi
      exact ⟨rfl, rfl, h64, ints_same hi (fun hp b hb => kept b (hf b hb).2 (fun e => by have := hgn b e; have := hf b hb; omega)), fun hp b hb => .inr hb⟩
/-- A line is appended. -/
theorem GA.pushA {w w1 : World} {base : Nat} {gv av av1 : Value} {gs : List PGate} {ns : List Nat} (x : Nat) (h : GA w base gv av gs ns)
    (hrow : w1.ownsRow base 3 1 av1 (ns.length + 1) (nums (natI ns) ++ [.int .i64 (x : Int)])) (hg : w.grownBy w1 av.ownBlock) (hv1 : ∀ b, av1.ownBlock = some b → av.ownBlock = some b ∨ w.heap.size ≤ b) : GA w1 base gv av1 gs (ns ++ [x]) := by
  obtain ⟨ts, L, h1, h2, h3, h4, h5, h6⟩ := h
  have kept : ∀ b, b < w.heap.size → av.ownBlock ≠ some b → w1.heap[b]? = w.heap[b]? := fun b hb hne => hg.block b hb (fun e => hne e.symm)
  refine ⟨ts, L, h1, row_kept h2 (fun k _ hk e => kept k hk (fun e' => h5 k e' e)), ?_, fun b hb => ⟨(h4 b hb).1, Nat.lt_of_lt_of_le (h4 b hb).2.1 hg.size, (h4 b hb).2.2.1, fun e => ?_⟩, fun b hb e => ?_, fun i t g ht hgi => ?_⟩
  · rw [List.length_append]
    have e : nums (natI (ns ++ [x])) = nums (natI ns) ++ [.int .i64 (x : Int)] := by unfold natI nums; simp
    rw [e]; exact hrow
  · rcases hv1 b e with h | h
    · exact (h4 b hb).2.2.2 h
    · have := (h4 b hb).2.1; omega
  · rcases hv1 b hb with h | h
    · exact h5 b h e
    · have := (h2.lt b e).2; omega
  · obtain ⟨a1, a2, a3, a4, a5⟩ := h6 i t g ht hgi
    exact ⟨a1, a2, a3, ints_same a4 (fun hp b hb => kept b (h4 b (a5 hp b hb)).2.1 (h4 b (a5 hp b hb)).2.2.2), a5⟩
end Go.Proofs.YtnlobmepajakcaaGreatDoor
