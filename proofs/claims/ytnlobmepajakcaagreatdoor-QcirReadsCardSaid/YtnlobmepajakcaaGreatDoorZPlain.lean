/- What circ.worked and circ.Eval do; the condition: gates have at most 2^62 literals / What prefixes, gates and nets are worth, in plain words, and small laws on rows; no condition. -/
import Derived.Test.YtnlobmepajakcaaGreatDoorZLeaf
import Derived.Test.YtnlobmepajakcaaGreatDoorZTools
import Derived.Lib.SliceRun
import Derived.IntWalk
import Derived.Shelf.SlicesQ.Reverse
import Derived.Ground.SlgnProg
import Derived.OwnWalkIn
import Derived.Deep.RegionHeld3
import Derived.Laws.ResultCell
set_option linter.unusedVariables false
set_option linter.unusedSimpArgs false
namespace Go.Proofs.YtnlobmepajakcaaGreatDoor
open Go.RowKit Go.Shelf

/-- The variables of a prefix. -/
def preS (N : PNet) : Nat → Bool := (prefFrom none 0 noS N.pre).getD noS
theorem mayP_pre {N : PNet} (h : mayP N = true) : prefFrom none 0 noS N.pre = some (preS N) ∧ litSum N.gates ≤ 200000 ∧ ∃ S, mayGates (preS N) N.gates = some S ∧ S (absN N.out) = true := by
  unfold mayP at h
  cases hm : mayS N with
  | none => rw [hm] at h; cases h
  | some S' =>
    rw [hm] at h
    unfold mayS at hm
    cases hp : prefFrom none 0 noS N.pre with
    | none => rw [hp] at hm; cases hm
    | some S =>
      have e : preS N = S := by unfold preS; rw [hp]; rfl
      rw [hp] at hm
      simp only at hm
      by_cases h2 : 200000 < litSum N.gates
      · rw [if_pos h2] at hm; cases hm
      · rw [if_neg h2] at hm
        rw [e]
        exact ⟨rfl, by omega, S', hm, h⟩
theorem new_set (w : World) (t : TypeId) : ∃ w1, w.alloc (.cells Tryz.zeroCells138 t) = w1 ∧ SetAt w1 w.heap.size t noS ∧ w1.heap.size = w.heap.size + 1 ∧ Below w.heap.size w w1 :=
  ⟨_, rfl, set_new w t, World.size_alloc _ _, (Below.refl _ w).alloc (Nat.le_refl _) _⟩
end Go.Proofs.YtnlobmepajakcaaGreatDoor
namespace Go.Proofs.YtnlobmepajakcaaGreatDoor
open Go.RowKit Go.Shelf

theorem IntsAt.kept {w w' : World} {v : Value} {xs : List Int} (h : IntsAt w v xs) {row : Option Nat} (hg : w.grownBy w' row) (hne : ∀ b, v.ownBlock = some b → row ≠ some b) : IntsAt w' v xs := by
  obtain ⟨A, c, rfl, h1, h2, h3⟩ := h
  refine ⟨A, c, rfl, h1, h2, fun hp => ?_⟩
  obtain ⟨b, off, rfl, h4⟩ := h3 hp
  exact ⟨b, off, rfl, fun j x hx => ⟨hg.cell (h4 j x hx).1 (fun e => hne b rfl e.symm), (h4 j x hx).2⟩⟩

def varsOf (p : List PBlock) : List Int := p.flatMap PBlock.vars
/-- The gates with their places and their inputs' slices. -/
def GatesL (w : World) (A : Option Addr) (gates : List PGate) (es : List (Nat × PGate × Value)) : Prop :=
  es.length = gates.length ∧ ∀ k x, es[k]? = some x → x.1 = k ∧ gates[k]? = some x.2.1 ∧ IntsAt w x.2.2 x.2.1.ins ∧ ∃ b off, A = some ⟨b, off, none⟩ ∧
    w.cell? ⟨b, off + k * 3, none⟩ = some (.int .i64 x.2.1.var) ∧ w.cell? ⟨b, off + k * 3 + 1, none⟩ = some (.int .u8 x.2.1.kind) ∧ w.cell? ⟨b, off + k * 3 + 2, none⟩ = some x.2.2
open Classical in
theorem gates_list {w : World} {A : Option Addr} {c : Nat} {gates : List PGate} (h : GatesAt w (.slice A gates.length c) gates) : ∃ es, GatesL w A gates es := by
  have hall : ∀ k : Nat, ∃ x : Nat × PGate × Value, k < gates.length → x.1 = k ∧ gates[k]? = some x.2.1 ∧ IntsAt w x.2.2 x.2.1.ins ∧ ∃ b off, A = some ⟨b, off, none⟩ ∧
    w.cell? ⟨b, off + k * 3, none⟩ = some (.int .i64 x.2.1.var) ∧ w.cell? ⟨b, off + k * 3 + 1, none⟩ = some (.int .u8 x.2.1.kind) ∧ w.cell? ⟨b, off + k * 3 + 2, none⟩ = some x.2.2 := fun k => by
    by_cases hk : k < gates.length
    · obtain ⟨g, hg, -, -⟩ := nth hk
      obtain ⟨b, off, vx, e, h1, h2, h3, h4⟩ := h.at_ k g hg
      exact ⟨(k, g, vx), fun _ => ⟨rfl, hg, h4.1, b, off, e, h1, h2, h3⟩⟩
    · exact ⟨(0, ⟨0, 0, []⟩, .nilFunc), fun h => absurd h hk⟩
  refine ⟨(List.range gates.length).map fun k => Classical.choose (hall k), by simp, fun k x hx => ?_⟩
  have hk : k < gates.length := by have := (List.getElem?_eq_some_iff.1 hx).1; simpa using this
  rw [List.getElem?_map, List.getElem?_range hk] at hx
  injection hx with hx
  rw [← hx]
  exact Classical.choose_spec (hall k) hk

abbrev PE := Nat × PGate × Value

theorem setCells_grown (g : Nat) : ∀ (vs : List Value) (o : Nat) (w : World), w.grownBy (w.setCells g o vs) (some g)
  | [], o, w => World.grownBy.refl _ _
  | v :: r, o, w => (grown_setCell w ⟨g, o, none⟩ v).trans (setCells_grown g r (o + 1) _)
theorem setCells_row (g : Nat) (e : TypeId) : ∀ (vs : List Value) (o : Nat) (w : World) (cur : Array Value), w.heap[g]? = some (.cells cur e (0, 0)) →
    ∃ cur', (w.setCells g o vs).heap[g]? = some (.cells cur' e (0, 0)) ∧ cur'.size = cur.size ∧ ∀ j, j < o → cur'[j]? = cur[j]?
  | [], o, w, cur, h => ⟨cur, h, rfl, fun _ _ => rfl⟩
  | v :: r, o, w, cur, h => by
    obtain ⟨cur', h1, h2, h3⟩ := setCells_row g e r (o + 1) (w.setCell ⟨g, o, none⟩ v) _ (heap_setCell_same w g o cur e v h)
    refine ⟨cur', h1, by rw [h2]; simp, fun j hj => ?_⟩
    rw [h3 j (by omega), Array.getElem?_setIfInBounds, if_neg (by omega)]

def bcells : List PBlock → List Value → List Value
  | x :: xs, v :: vs => .bool x.ex :: v :: bcells xs vs
  | _, _ => []
theorem bcells_snoc : ∀ (xs : List PBlock) (vs : List Value) (x : PBlock) (v : Value), vs.length = xs.length → bcells (xs ++ [x]) (vs ++ [v]) = bcells xs vs ++ [.bool x.ex, v]
  | [], [], x, v, _ => rfl
  | [], _ :: _, _, _, h => by simp at h
  | _ :: _, [], _, _, h => by simp at h
  | y :: xs, u :: vs, x, v, h => by
    simp only [List.cons_append, bcells]
    rw [bcells_snoc xs vs x v (by simpa using h)]
theorem bcells_length : ∀ (xs : List PBlock) (vs : List Value), vs.length = xs.length → (bcells xs vs).length = xs.length * 2
  | [], [], _ => rfl
  | [], _ :: _, h => by simp at h
  | _ :: _, [], h => by simp at h
  | y :: xs, u :: vs, h => by
    simp only [bcells, List.length_cons]
    rw [bcells_length xs vs (by simpa using h)]; omega
theorem bcells_get : ∀ (xs : List PBlock) (vs : List Value) (i : Nat) (x : PBlock), vs.length = xs.length → xs[i]? = some x →
    (bcells xs vs)[i * 2]? = some (.bool x.ex) ∧ ∃ v, vs[i]? = some v ∧ (bcells xs vs)[i * 2 + 1]? = some v
  | [], _, _, _, _, h => by simp at h
  | _ :: _, [], _, _, h, _ => by simp at h
  | y :: xs, u :: vs, 0, x, _, h => by
    injection h with h; subst h
    exact ⟨rfl, u, rfl, rfl⟩
  | y :: xs, u :: vs, i + 1, x, hl, h => by
    obtain ⟨h1, v, h2, h3⟩ := bcells_get xs vs i x (by simpa using hl) (by simpa using h)
    have e : (i + 1) * 2 = i * 2 + 2 := by omega
    refine ⟨by rw [e]; exact h1, v, by simpa using h2, by rw [e]; exact h3⟩

/-- The result in the making: all but its last block are read, the last one's variables can be appended to. -/
def OutAt (w : World) (base : Nat) (vo : Value) (out : List PBlock) : Prop :=
  (out = [] ∧ vo = .slice none 0 0) ∨ ∃ (init : List PBlock) (x : PBlock) (vi : List Value) (vl : Value), out = init ++ [x] ∧ vi.length = init.length ∧
    w.ownsRow base 71 2 vo (init.length + 1) (bcells init vi ++ [.bool x.ex, vl]) ∧ w.ownsRow base 3 1 vl x.vars.length (nums x.vars) ∧
    (∀ b, vl.ownBlock = some b → vo.ownBlock ≠ some b) ∧
    ∀ (i : Nat) (y : PBlock) (v : Value), init[i]? = some y → vi[i]? = some v → IntsAt w v y.vars ∧ ∀ b, v.ownBlock = some b → vl.ownBlock ≠ some b ∧ vo.ownBlock ≠ some b ∧ b < w.heap.size ∧ base ≤ b
theorem OutAt.below {w w1 : World} {base : Nat} {vo : Value} {out : List PBlock} (h : OutAt w base vo out) (hB : Below w.heap.size w w1) : OutAt w1 base vo out := by
  rcases h with h | ⟨init, x, vi, vl, h1, h2, h3, h4, h4b, h5⟩
  · exact .inl h
  · have kn : ∀ v : Value, v.ownBlock = none ∨ v.ownBlock ≠ none := fun v => by cases v.ownBlock <;> simp
    refine .inr ⟨init, x, vi, vl, h1, h2, h3.kept (grown_of_below hB none) (kn _), h4.kept (grown_of_below hB none) (kn _), h4b, fun i y v hy hv => ?_⟩
    obtain ⟨k1, k2⟩ := h5 i y v hy hv
    exact ⟨k1.keep (keeps_below hB), fun b hb => ⟨(k2 b hb).1, (k2 b hb).2.1, Nat.lt_of_lt_of_le (k2 b hb).2.2.1 hB.size, (k2 b hb).2.2.2⟩⟩
/-- The shape of the result. -/
theorem OutAt.form {w : World} {base : Nat} {vo : Value} {out : List PBlock} (h : OutAt w base vo out) : ∃ A c, vo = .slice A out.length c ∧ out.length ≤ 9223372036854775807 := by
  rcases h with ⟨rfl, rfl⟩ | ⟨init, x, vi, vl, rfl, h2, h3, h4, _⟩
  · exact ⟨none, 0, rfl, by simp⟩
  · rcases h3.2 with ⟨_, h⟩ | ⟨g, cap, cur, rfl, _, _, k1, k2, _⟩
    · omega
    · refine ⟨some ⟨g, 0, none⟩, cap, by simp, ?_⟩
      simp only [maxLen] at k2
      simp; omega
/-- A block is appended. -/
theorem OutAt.push {w0 w w1 : World} {base : Nat} {vo vo1 vl2 : Value} {out : List PBlock} {x2 : PBlock} (h : OutAt w0 base vo out) (hx64 : ∀ x ∈ out, ∀ y ∈ x.vars, I64 y) (hB : Below w0.heap.size w0 w)
    (hl : w.ownsRow base 3 1 vl2 x2.vars.length (nums x2.vars)) (hf : ∀ b, vl2.ownBlock = some b → w0.heap.size ≤ b)
    (hrow : ∀ xs, w.ownsRow base 71 2 vo out.length xs → w1.ownsRow base 71 2 vo1 (out.length + 1) (xs ++ [.bool x2.ex, vl2]))
    (hg : w.grownBy w1 vo.ownBlock) (hv1 : ∀ b, vo1.ownBlock = some b → vo.ownBlock = some b ∨ w.heap.size ≤ b) : OutAt w1 base vo1 (out ++ [x2]) := by
  have hlt2 : ∀ b, vl2.ownBlock = some b → b < w.heap.size := fun b hb => (hl.lt b hb).2
  have hne2 : vl2.ownBlock = none ∨ vl2.ownBlock ≠ vo.ownBlock := by
    cases hb : vl2.ownBlock with
    | none => exact .inl rfl
    | some b =>
      right
      intro e
      rcases h with ⟨_, rfl⟩ | ⟨init, x, vi, vl, _, _, h3, _⟩
      · cases e
      · have := (h3.lt b e.symm).2
        have := hf b hb
        omega
  have hl1 := hl.kept hg hne2
  have hv2 : ∀ b, vl2.ownBlock = some b → vo1.ownBlock ≠ some b := fun b hb e => by
    rcases hv1 b e with h' | h'
    · rcases hne2 with h'' | h''
      · rw [h''] at hb; cases hb
      · exact h'' (hb.trans h'.symm)
    · have := hlt2 b hb; omega
  rcases h with ⟨rfl, rfl⟩ | ⟨init, x, vi, vl, rfl, h2, h3, h4, h4b, h5⟩
  · have := hrow [] (World.ownsRow_nil _ _ _ _)
    exact .inr ⟨[], x2, [], vl2, rfl, rfl, this, hl1, hv2, fun i y v hy => by simp at hy⟩
  · have kn : ∀ v : Value, v.ownBlock = none ∨ v.ownBlock ≠ none := fun v => by cases v.ownBlock <;> simp
    have h3' := h3.kept (grown_of_below hB none) (kn _)
    have h4' := h4.kept (grown_of_below hB none) (kn _)
    have hlen : (init ++ [x]).length = init.length + 1 := by simp
    have hr := hrow (bcells init vi ++ [.bool x.ex, vl]) (by rw [hlen]; exact h3')
    rw [hlen] at hr
    have h4lt := fun b hb => (h4.lt b hb).2
    have keepI : ∀ (v : Value) (ys : List Int), IntsAt w v ys → (∀ b, v.ownBlock = some b → vo.ownBlock ≠ some b) → IntsAt w1 v ys := fun v ys hi hn => by
      obtain ⟨A, c, rfl, k1, k2, k3⟩ := hi
      refine ⟨A, c, rfl, k1, k2, fun hp => ?_⟩
      obtain ⟨b, off, rfl, k4⟩ := k3 hp
      exact ⟨b, off, rfl, fun j y hy => ⟨hg.cell (k4 j y hy).1 (fun e => hn b rfl e.symm), (k4 j y hy).2⟩⟩
    refine .inr ⟨init ++ [x], x2, vi ++ [vl], vl2, rfl, by simp [h2], by rw [hlen, bcells_snoc init vi x vl h2]; exact hr, hl1, hv2, fun i y v hy hv => ?_⟩
    have old : IntsAt w v y.vars ∧ ∀ b, v.ownBlock = some b → vo.ownBlock ≠ some b ∧ b < w0.heap.size ∧ base ≤ b := by
      by_cases hi : i < init.length
      · rw [List.getElem?_append_left hi] at hy
        rw [List.getElem?_append_left (by omega)] at hv
        obtain ⟨k1, k2⟩ := h5 i y v hy hv
        exact ⟨k1.keep (keeps_below hB), fun b hb => ⟨(k2 b hb).2.1, (k2 b hb).2.2.1, (k2 b hb).2.2.2⟩⟩
      · have hil : i = init.length := by
          have := (List.getElem?_eq_some_iff.1 hy).1
          simp at this; omega
        subst hil
        rw [List.getElem?_concat_length] at hy
        rw [← h2, List.getElem?_concat_length] at hv
        injection hy with hy; injection hv with hv
        subst hy; subst hv
        have hm : x.vars.length ≤ 9223372036854775807 := by
          rcases h4.2 with ⟨_, h⟩ | ⟨_, _, _, _, _, _, k1, k2, _⟩
          · omega
          · simp only [maxLen] at k2; omega
        exact ⟨ints_of_own h4' (hx64 x (by simp)) hm, fun b hb => ⟨h4b b hb, h4lt b hb, (h4.lt b hb).1⟩⟩
    refine ⟨keepI v _ old.1 (fun b hb => (old.2 b hb).1), fun b hb => ⟨fun e => ?_, fun e => ?_, ?_, (old.2 b hb).2.2⟩⟩
    · have := hf b e; have := (old.2 b hb).2.1; omega
    · rcases hv1 b e with h' | h'
      · exact (old.2 b hb).1 h'
      · have := (old.2 b hb).2.1; have := hB.size; omega
    · have := (old.2 b hb).2.1; have := hB.size; have := hg.size; omega
/-- The last block's variables grow. -/
theorem OutAt.ext {w w1 : World} {base go cap : Nat} {init : List PBlock} {x : PBlock} {vi : List Value} {vl vl1 : Value} {l : List Int} (h2 : vi.length = init.length)
    (h3 : w.ownsRow base 71 2 (.slice (some ⟨go, 0, none⟩) (init.length + 1) cap) (init.length + 1) (bcells init vi ++ [.bool x.ex, vl])) (h4 : w.ownsRow base 3 1 vl x.vars.length (nums x.vars))
    (h4b : ∀ b, vl.ownBlock = some b → b ≠ go)
    (h5 : ∀ (i : Nat) (y : PBlock) (v : Value), init[i]? = some y → vi[i]? = some v → IntsAt w v y.vars ∧ ∀ b, v.ownBlock = some b → vl.ownBlock ≠ some b ∧ b ≠ go ∧ b < w.heap.size ∧ base ≤ b)
    (hl : w1.ownsRow base 3 1 vl1 (x.vars ++ l).length (nums (x.vars ++ l))) (hg : w.grownBy w1 vl.ownBlock) (hv1 : ∀ b, vl1.ownBlock = some b → vl.ownBlock = some b ∨ w.heap.size ≤ b) :
    OutAt (w1.setCell ⟨go, init.length * 2 + 1, none⟩ vl1) base (.slice (some ⟨go, 0, none⟩) (init.length + 1) cap) (init ++ [⟨x.ex, x.vars ++ l⟩]) := by
  have hgo : go < w.heap.size := (h3.lt go rfl).2
  have h3' : w1.ownsRow base 71 2 (.slice (some ⟨go, 0, none⟩) (init.length + 1) cap) (init.length + 1) (bcells init vi ++ [.bool x.ex, vl]) := by
    refine h3.kept hg (.inr fun e => ?_)
    exact h4b go e.symm rfl
  have hst := (h3'.stored (init.length * 2 + 1) vl1).1
  have hset : (bcells init vi ++ [Value.bool x.ex, vl]).set (init.length * 2 + 1) vl1 = bcells init vi ++ [.bool x.ex, vl1] := by
    have hlen2 := bcells_length init vi h2
    rw [List.set_append_right _ _ (by omega), hlen2, show init.length * 2 + 1 - init.length * 2 = 1 by omega]
    rfl
  rw [hset] at hst
  have hb1 : ∀ b, vl1.ownBlock = some b → b ≠ go := fun b hb e => by
    rcases hv1 b hb with h | h
    · exact h4b b h e
    · omega
  have hl1 := hl.kept (grown_setCell w1 ⟨go, init.length * 2 + 1, none⟩ vl1) (by
    cases hb : vl1.ownBlock with
    | none => exact .inl rfl
    | some b => right; intro e; injection e with e; exact hb1 b hb e)
  refine .inr ⟨init, ⟨x.ex, x.vars ++ l⟩, vi, vl1, rfl, h2, hst, hl1, fun b hb e => ?_, fun i y v hy hv => ?_⟩
  · injection e with e; exact hb1 b hb e.symm
  · obtain ⟨k1, k2⟩ := h5 i y v hy hv
    have hi1 : IntsAt w1 v y.vars := IntsAt.kept k1 hg (fun b hb e => (k2 b hb).1 e)
    have hi2 := IntsAt.kept hi1 (grown_setCell w1 ⟨go, init.length * 2 + 1, none⟩ vl1) (fun b hb e => (k2 b hb).2.1 (by injection e with e; exact e.symm))
    refine ⟨hi2, fun b hb => ⟨fun e => ?_, fun e => (k2 b hb).2.1 (by injection e with e; exact e.symm), ?_, (k2 b hb).2.2.2⟩⟩
    · rcases hv1 b e with h | h
      · exact (k2 b hb).1 h
      · have := (k2 b hb).2.2.1; omega
    · have := (k2 b hb).2.2.1
      have := hg.size
      simp [World.setCell]; omega
theorem blocks_of_out {w : World} {base : Nat} {vo : Value} {out : List PBlock} (h : OutAt w base vo out) (hx64 : ∀ x ∈ out, ∀ y ∈ x.vars, I64 y) : BlocksAt w vo out := by
  rcases h with ⟨rfl, rfl⟩ | ⟨init, x, vi, vl, rfl, h2, h3, h4, h4b, h5⟩
  · exact ⟨none, 0, rfl, Nat.le_refl _, by omega, fun h => by simp at h⟩
  · have hl4 : IntsAt w vl x.vars := by
      refine ints_of_own h4 (hx64 x (by simp)) ?_
      rcases h4.2 with ⟨_, h⟩ | ⟨_, _, _, _, _, _, k1, k2, _⟩
      · omega
      · simp only [maxLen] at k2; omega
    rcases h3.2 with ⟨_, h⟩ | ⟨g, cap, cur, rfl, hb, hh, k1, k2, k3, k4⟩
    · omega
    · refine ⟨some ⟨g, 0, none⟩, cap, by simp, by simpa using k1, by simpa [maxLen] using k2, fun _ => ⟨g, 0, rfl, fun j y hj => ?_⟩⟩
      have hadd : ∀ m, (⟨g, 0, none⟩ : Addr).add m = ⟨g, m, none⟩ := fun m => by unfold Addr.add; split <;> simp_all
      have hc : ∀ m u, (bcells init vi ++ [Value.bool x.ex, vl])[m]? = some u → w.cell? ⟨g, m, none⟩ = some u := fun m u hu => by
        have := h3.cells (g := g) rfl m u hu
        rwa [hadd] at this
      rw [← bcells_snoc init vi x vl h2] at hc
      obtain ⟨c1, v, c2, c3⟩ := bcells_get (init ++ [x]) (vi ++ [vl]) j y (by simp [h2]) hj
      rw [Nat.zero_add]
      refine ⟨hc _ _ c1, v, hc _ _ c3, ?_⟩
      by_cases hi : j < init.length
      · rw [List.getElem?_append_left hi] at hj
        rw [List.getElem?_append_left (by omega)] at c2
        exact (h5 j y v hj c2).1
      · have hil : j = init.length := by
          have := (List.getElem?_eq_some_iff.1 hj).1
          simp at this; omega
        subst hil
        rw [List.getElem?_concat_length] at hj
        rw [← h2, List.getElem?_concat_length] at c2
        injection hj with hj; injection c2 with c2
        subst hj; subst c2
        exact hl4
theorem own_lower {w : World} {base base' : Nat} {e : TypeId} {size : Nat} {v : Value} {n : Nat} {xs : List Value} (h : w.ownsRow base e size v n xs) (hb : base' ≤ base) : w.ownsRow base' e size v n xs := by
  rcases h with ⟨h1, h2 | ⟨g, cap, cur, h2, h3, h4⟩⟩
  · exact ⟨h1, .inl h2⟩
  · exact ⟨h1, .inr ⟨g, cap, cur, h2, Nat.le_trans hb h3, h4⟩⟩
theorem own_unique {w : World} {base : Nat} {e : TypeId} {size : Nat} {v : Value} {n : Nat} {xs ys : List Value} (h : w.ownsRow base e size v n xs) (k : w.ownsRow base e size v n ys) : xs = ys := by
  rcases h with ⟨h1, ⟨rfl, rfl⟩ | ⟨g, cap, cur, rfl, _, h4, _, _, _, h5⟩⟩
  · have k1 := k.1
    rw [List.eq_nil_of_length_eq_zero (by omega : xs.length = 0), List.eq_nil_of_length_eq_zero (by omega : ys.length = 0)]
  · rcases k with ⟨k1, ⟨k2, k3⟩ | ⟨g2, cap2, cur2, k2, _, k4, _, _, _, k5⟩⟩
    · cases k2
    · cases k2
      rw [h4] at k4
      cases k4
      rw [← h5, ← k5]
theorem own_shape {w : World} {base : Nat} {e : TypeId} {size : Nat} {v : Value} {n : Nat} {xs : List Value} (h : w.ownsRow base e size v n xs) : ∃ A c, v = .slice A n c := by
  rcases h with ⟨h1, ⟨rfl, rfl⟩ | ⟨g, cap, cur, rfl, _⟩⟩
  · exact ⟨none, 0, rfl⟩
  · exact ⟨_, _, rfl⟩
theorem OutAt.row {w : World} {base : Nat} {vo : Value} {out : List PBlock} (h : OutAt w base vo out) : ∃ xs, w.ownsRow base 71 2 vo out.length xs := by
  rcases h with ⟨rfl, rfl⟩ | ⟨init, x, vi, vl, rfl, h2, h3, h4, _⟩
  · exact ⟨[], World.ownsRow_nil _ _ _ _⟩
  · exact ⟨_, by rw [List.length_append]; exact h3⟩
section
variable {ops : Array Oper} {rest : List Oper} {o : Oper} {a : Act} {Q : Exit → Act → World → Prop}
theorem OutAt.lower {w : World} {base base' : Nat} {vo : Value} {out : List PBlock} (h : OutAt w base vo out) (hb : base' ≤ base) : OutAt w base' vo out := by
  rcases h with h | ⟨init, x, vi, vl, h1, h2, h3, h4, h5⟩
  · exact .inl h
  · exact .inr ⟨init, x, vi, vl, h1, h2, own_lower h3 hb, own_lower h4 hb, h5.1, fun i y v hy hv => ⟨(h5.2 i y v hy hv).1, fun b hb' => ⟨((h5.2 i y v hy hv).2 b hb').1, ((h5.2 i y v hy hv).2 b hb').2.1, ((h5.2 i y v hy hv).2 b hb').2.2.1, Nat.le_trans hb ((h5.2 i y v hy hv).2 b hb').2.2.2⟩⟩⟩
theorem append_ints {W : World} (base b2 : Nat) (hgd : o.guard = none) (s x : Operand) (ho : o.op = .call { callee := .builtin .append, args := #[s, x], argTypes := #[48, 48] })
    (v : Value) (n : Nat) (xs : List Int) (g m cap : Nat) (ys : List Int) (hs : a.eval s = v) (hx : a.eval x = .slice (some ⟨g, 0, none⟩) m cap)
    (HO : W.ownsRow base 3 1 v n (nums xs)) (HY : W.ownsRow b2 3 1 (.slice (some ⟨g, 0, none⟩) m cap) m (nums ys)) (hbase : base ≤ W.heap.size) (hl : (n + m) * 8 ≤ 140737488355328)
    (h : ∀ v1 w1, w1.ownsRow base 3 1 v1 (n + m) (nums (xs ++ ys)) → W.grownBy w1 v.ownBlock → (v1.ownBlock = v.ownBlock ∨ v1.ownBlock = some W.heap.size) → wpList Tryz.prog ops Q rest (a.put o.dst v1) w1) :
    wpList Tryz.prog ops Q (o :: rest) a W := by
  obtain ⟨i0, hi, hzz⟩ := Option.map_eq_some_iff.1 info3
  simp only [Prod.mk.injEq] at hzz
  obtain ⟨hz0, hz1, hz2⟩ := hzz
  have hml : (nums ys).length = m * 1 := HY.1
  refine wpList_append_own_at W hgd s x 48 ho base 3 i0 (.int .i64 0) 1 8 Tryz.underlying48 hi hz0 hz1 hz2 rfl (by decide) v n (nums xs) hs HO ⟨g, 0, none⟩ m cap (nums ys) hx hml (fun j u hj => HY.cells rfl j u hj)
    (fun u hu => ?_) (by simp only [maxLen]; omega) hl hbase (fun v1 w1 h1 h2 _ h3 => h v1 w1 ?_ h2 h3)
  · obtain ⟨z, _, rfl⟩ := List.mem_map.1 hu; rfl
  · have e : nums (xs ++ ys) = nums xs ++ nums ys := List.map_append
    rw [e]; exact h1
end
/-- Sizes of a result in the making. -/
def OutB (k : Nat) (out : List PBlock) : Prop := ∀ z ∈ out, z.vars.length ≤ k * 65536 ∧ ∀ y ∈ z.vars, 0 ≤ y ∧ y ≤ 65536
theorem OutB.nil (k : Nat) : OutB k [] := fun z hz => by cases hz
theorem OutB.up {k : Nat} {out : List PBlock} (h : OutB k out) : OutB (k + 1) out := fun z hz => ⟨Nat.le_trans (h z hz).1 (Nat.mul_le_mul_right _ (Nat.le_succ k)), (h z hz).2⟩
theorem OutB.push {k : Nat} {out : List PBlock} (h : OutB k out) {e : Bool} {l : List Int} (hl : l.length ≤ 65536) (h2 : ∀ y ∈ l, 0 ≤ y ∧ y ≤ 65536) : OutB (k + 1) (out ++ [⟨e, l⟩]) := fun z hz => by
  rw [List.mem_append, List.mem_singleton] at hz
  rcases hz with hz | rfl
  · exact h.up z hz
  · exact ⟨Nat.le_trans hl (Nat.le_mul_of_pos_left _ (Nat.succ_pos k)), h2⟩
theorem OutB.ext {k : Nat} {init : List PBlock} {x : PBlock} (h : OutB k (init ++ [x])) {l : List Int} (hl : l.length ≤ 65536) (h2 : ∀ y ∈ l, 0 ≤ y ∧ y ≤ 65536) : OutB (k + 1) (init ++ [⟨x.ex, x.vars ++ l⟩]) := fun z hz => by
  have hx := h x (by simp)
  rw [List.mem_append, List.mem_singleton] at hz
  rcases hz with hz | rfl
  · exact h.up z (by simp [hz])
  · refine ⟨?_, fun y hy => ?_⟩
    · have h1 := hx.1
      have e : (x.vars ++ l).length = x.vars.length + l.length := List.length_append
      have e2 : (k + 1) * 65536 = k * 65536 + 65536 := Nat.succ_mul k 65536
      show (x.vars ++ l).length ≤ (k + 1) * 65536
      omega
    rcases List.mem_append.1 hy with hy | hy
    · exact hx.2 y hy
    · exact h2 y hy
theorem last_cells {w : World} {base go cap : Nat} {init : List PBlock} {x : PBlock} {vi : List Value} {vl : Value} (h2 : vi.length = init.length)
    (h3 : w.ownsRow base 71 2 (.slice (some ⟨go, 0, none⟩) (init.length + 1) cap) (init.length + 1) (bcells init vi ++ [.bool x.ex, vl])) :
    w.cell? ⟨go, init.length * 2, none⟩ = some (.bool x.ex) ∧ w.cell? ⟨go, init.length * 2 + 1, none⟩ = some vl := by
  have hlen2 := bcells_length init vi h2
  refine ⟨?_, ?_⟩
  · rw [h3.cellAt _ (by omega), List.getElem?_append_right (by omega), hlen2, Nat.sub_self]; rfl
  · rw [h3.cellAt _ (by omega), List.getElem?_append_right (by omega), hlen2, show init.length * 2 + 1 - init.length * 2 = 1 by omega]; rfl

/-- Where from base on nothing turns the result stays. -/
theorem OutAt.keepB {w w' : World} {base : Nat} {vo : Value} {out : List PBlock} (h : OutAt w base vo out) (hs : w.heap.size ≤ w'.heap.size) (hk : ∀ k, base ≤ k → k < w.heap.size → w'.heap[k]? = w.heap[k]?) : OutAt w' base vo out := by
  have row : ∀ {e size n : Nat} {v : Value} {xs : List Value}, w.ownsRow base e size v n xs → w'.ownsRow base e size v n xs := fun hr => by
    rcases hr with ⟨k1, k2 | ⟨g, cap, cur, k2, k3, k4, k5⟩⟩
    · exact ⟨k1, .inl k2⟩
    · exact ⟨k1, .inr ⟨g, cap, cur, k2, k3, (hk g k3 (Array.getElem?_eq_some_iff.1 k4).1).trans k4, k5⟩⟩
  rcases h with h | ⟨init, x, vi, vl, h1, h2, h3, h4, h5, h6⟩
  · exact .inl h
  · refine .inr ⟨init, x, vi, vl, h1, h2, row h3, row h4, h5, fun i y v hy hv => ?_⟩
    obtain ⟨k1, k2⟩ := h6 i y v hy hv
    refine ⟨?_, fun b hb => ⟨(k2 b hb).1, (k2 b hb).2.1, Nat.lt_of_lt_of_le (k2 b hb).2.2.1 hs, (k2 b hb).2.2.2⟩⟩
    obtain ⟨A, c, e, a1, a2, a3⟩ := k1
    refine ⟨A, c, e, a1, a2, fun hp => ?_⟩
    obtain ⟨b, off, rfl, a4⟩ := a3 hp
    have hb := k2 b (by rw [e]; rfl)
    exact ⟨b, off, rfl, fun j x hx => ⟨(World.cell?_of_block (hk b hb.2.2.2 hb.2.2.1)).trans (a4 j x hx).1, (a4 j x hx).2⟩⟩

abbrev GT := Int × Int × Option Addr × Nat × Nat
def enc3 (x : GT) : List Value := [.int .i64 x.1, .int .u8 x.2.1, .slice x.2.2.1 x.2.2.2.1 x.2.2.2.2]
def gcells (ts : List GT) : List Value := ts.flatMap enc3
theorem gcells_length : ∀ ts : List GT, (gcells ts).length = ts.length * 3
  | [] => rfl
  | t :: ts => by
    have h := gcells_length ts
    unfold gcells at h ⊢
    rw [List.flatMap_cons, List.length_append, h]
    simp [enc3]; omega
theorem gcells_snoc (ts : List GT) (t : GT) : gcells (ts ++ [t]) = gcells ts ++ enc3 t := by simp [gcells]
theorem gcells_get : ∀ (ts : List GT) (i r : Nat) (x : GT), ts[i]? = some x → r < 3 → (gcells ts)[i * 3 + r]? = (enc3 x)[r]?
  | [], _, _, _, h, _ => by simp at h
  | t :: ts, 0, r, x, h, hr => by
    injection h with h; subst h
    unfold gcells
    rw [List.flatMap_cons, Nat.zero_mul, Nat.zero_add, List.getElem?_append_left (by simp [enc3]; omega)]
  | t :: ts, i + 1, r, x, h, hr => by
    have ih := gcells_get ts i r x (by simpa using h) hr
    unfold gcells at ih ⊢
    rw [List.flatMap_cons, List.getElem?_append_right (by simp [enc3]; omega)]
    have e : (i + 1) * 3 + r - (enc3 t).length = i * 3 + r := by simp [enc3]; omega
    rw [e]; exact ih

def varM (M : Nat → Int) (vs : List Int) : Nat → Int := vs.foldl (fun M v => upd M v.toNat v) M
def BndM (M : Nat → Int) : Prop := ∀ i, -65537 ≤ M i ∧ M i ≤ 65537
theorem BndM.upd {M : Nat → Int} (h : BndM M) (i : Nat) {x : Int} (h1 : -65537 ≤ x) (h2 : x ≤ 65537) : BndM (upd M i x) := fun j => by
  unfold YtnlobmepajakcaaGreatDoor.upd
  split
  · exact ⟨h1, h2⟩
  · exact h j
/-- The row vo holds the gates; their literals lie from base on, in other blocks than the row. -/
def StayAt (w : World) (base : Nat) (vo : Value) (gs : List PGate) : Prop :=
  ∃ ts : List GT, ts.length = gs.length ∧ w.ownsRow base 88 3 vo gs.length (gcells ts) ∧ ∀ (i : Nat) (t : GT) (g : PGate), ts[i]? = some t → gs[i]? = some g →
    t.1 = g.var ∧ t.2.1 = g.kind ∧ (I64 g.var ∧ 0 ≤ g.kind ∧ g.kind ≤ 255) ∧ IntsAt w (.slice t.2.2.1 t.2.2.2.1 t.2.2.2.2) g.ins ∧
    (0 < g.ins.length → ∀ b, (Value.slice t.2.2.1 t.2.2.2.1 t.2.2.2.2).ownBlock = some b → vo.ownBlock ≠ some b ∧ base ≤ b ∧ b < w.heap.size)
theorem StayAt.nil (w : World) (base : Nat) : StayAt w base (.slice none 0 0) [] := ⟨[], rfl, World.ownsRow_nil _ _ _ _, fun i t g h => by simp at h⟩
/-- From base on nothing has turned. -/
theorem StayAt.keep {w w' : World} {base : Nat} {vo : Value} {gs : List PGate} (h : StayAt w base vo gs) (hs : w.heap.size ≤ w'.heap.size) (hk : ∀ k, base ≤ k → k < w.heap.size → w'.heap[k]? = w.heap[k]?) : StayAt w' base vo gs := by
  obtain ⟨ts, h1, h2, h3⟩ := h
  refine ⟨ts, h1, ?_, fun i t g ht hg => ?_⟩
  · rcases h2 with ⟨k1, k2 | ⟨g, cap, cur, k2, k3, k4, k5⟩⟩
    · exact ⟨k1, .inl k2⟩
    · exact ⟨k1, .inr ⟨g, cap, cur, k2, k3, (hk g k3 (Array.getElem?_eq_some_iff.1 k4).1).trans k4, k5⟩⟩
  · obtain ⟨a1, a2, a3, a4, a5⟩ := h3 i t g ht hg
    refine ⟨a1, a2, a3, ?_, fun hp b hb => ⟨(a5 hp b hb).1, (a5 hp b hb).2.1, Nat.lt_of_lt_of_le (a5 hp b hb).2.2 hs⟩⟩
    obtain ⟨A, c, e, k1, k2, k3⟩ := a4
    refine ⟨A, c, e, k1, k2, fun hp => ?_⟩
    obtain ⟨b, off, rfl, k4⟩ := k3 hp
    refine ⟨b, off, rfl, fun j x hx => ⟨(World.cell?_of_block (hk b ?_ ?_)).trans (k4 j x hx).1, (k4 j x hx).2⟩⟩
    · exact (a5 hp b (by rw [e]; rfl)).2.1
    · exact (a5 hp b (by rw [e]; rfl)).2.2
theorem StayAt.grown {w w' : World} {base : Nat} {vo : Value} {gs : List PGate} (h : StayAt w base vo gs) {row : Option Nat} (hg : w.grownBy w' row) (hr : ∀ r, row = some r → r < base) : StayAt w' base vo gs :=
  h.keep hg.size (fun k hk hk2 => hg.block k hk2 (fun e => by have := hr k e.symm; omega))
theorem StayAt.below {w w' : World} {base : Nat} {vo : Value} {gs : List PGate} (h : StayAt w base vo gs) (hB : Below w.heap.size w w') : StayAt w' base vo gs := h.grown (grown_of_below hB none) (fun r e => by cases e)
theorem StayAt.row {w : World} {base : Nat} {vo : Value} {gs : List PGate} (h : StayAt w base vo gs) : ∃ xs, w.ownsRow base 88 3 vo gs.length xs := by
  obtain ⟨ts, h1, h2, h3⟩ := h; exact ⟨_, h2⟩
theorem StayAt.push {w0 w w1 : World} {base : Nat} {vo vo1 : Value} {gs : List PGate} {x : PGate} {A : Option Addr} {n c : Nat} (h : StayAt w0 base vo gs) (hB : Below w0.heap.size w0 w) (h64 : I64 x.var ∧ 0 ≤ x.kind ∧ x.kind ≤ 255)
    (hi : IntsAt w (.slice A n c) x.ins) (hf : 0 < x.ins.length → ∀ b, (Value.slice A n c).ownBlock = some b → vo.ownBlock ≠ some b ∧ base ≤ b ∧ b < w.heap.size)
    (hrow : ∀ xs, w.ownsRow base 88 3 vo gs.length xs → w1.ownsRow base 88 3 vo1 (gs.length + 1) (xs ++ [.int .i64 x.var, .int .u8 x.kind, .slice A n c]))
    (hg : w.grownBy w1 vo.ownBlock) (hv1 : ∀ b, vo1.ownBlock = some b → vo.ownBlock = some b ∨ w.heap.size ≤ b) : StayAt w1 base vo1 (gs ++ [x]) := by
  obtain ⟨ts, h1, h2, h3⟩ := h
  have h2' := h2.kept (grown_of_below hB none) (by cases vo.ownBlock <;> simp)
  have hr := hrow _ h2'
  have keepI : ∀ (v : Value) (ys : List Int), IntsAt w v ys → (0 < ys.length → ∀ b, v.ownBlock = some b → vo.ownBlock ≠ some b) → IntsAt w1 v ys := fun v ys hi hn => by
    obtain ⟨A', c', rfl, k1, k2, k3⟩ := hi
    refine ⟨A', c', rfl, k1, k2, fun hp => ?_⟩
    obtain ⟨b, off, rfl, k4⟩ := k3 hp
    exact ⟨b, off, rfl, fun j x hx => ⟨hg.cell (k4 j x hx).1 (fun e => hn hp b rfl e.symm), (k4 j x hx).2⟩⟩
  have nv1 : ∀ b, vo.ownBlock ≠ some b → b < w.heap.size → vo1.ownBlock ≠ some b := fun b hb hlt e => by
    rcases hv1 b e with h | h
    · exact hb h
    · omega
  refine ⟨ts ++ [(x.var, x.kind, A, n, c)], by simp [h1], ?_, fun i t g ht hgi => ?_⟩
  · rw [gcells_snoc, List.length_append]; exact hr
  · by_cases hlt : i < ts.length
    · rw [List.getElem?_append_left hlt] at ht
      rw [List.getElem?_append_left (by omega)] at hgi
      obtain ⟨a1, a2, a3, a4, a5⟩ := h3 i t g ht hgi
      refine ⟨a1, a2, a3, keepI _ _ (a4.keep (keeps_below hB)) (fun hp b hb => (a5 hp b hb).1), fun hp b hb => ⟨nv1 b (a5 hp b hb).1 (Nat.lt_of_lt_of_le (a5 hp b hb).2.2 hB.size), (a5 hp b hb).2.1, ?_⟩⟩
      have := (a5 hp b hb).2.2; have := hB.size; have := hg.size; omega
    · have hil : i = ts.length := by have := (List.getElem?_eq_some_iff.1 ht).1; simp at this; omega
      subst hil
      rw [List.getElem?_concat_length] at ht
      rw [h1, List.getElem?_concat_length] at hgi
      injection ht with ht; injection hgi with hgi
      subst ht; subst hgi
      refine ⟨rfl, rfl, h64, keepI _ _ hi (fun hp b hb => (hf hp b hb).1), fun hp b hb => ⟨nv1 b (hf hp b hb).1 (hf hp b hb).2.2, (hf hp b hb).2.1, ?_⟩⟩
      have := (hf hp b hb).2.2; have := hg.size; omega
theorem StayAt.form {w : World} {base : Nat} {vo : Value} {gs : List PGate} (h : StayAt w base vo gs) : ∃ A c, vo = .slice A gs.length c ∧ gs.length ≤ c ∧ c ≤ 9223372036854775807 := by
  obtain ⟨ts, h1, h2, h3⟩ := h
  rcases h2 with ⟨k1, ⟨rfl, k2⟩ | ⟨g, cap, cur, rfl, k3, k4, k5, k6, k7⟩⟩
  · exact ⟨none, 0, by rw [k2], by omega, by omega⟩
  · exact ⟨_, cap, rfl, k5, by simpa [maxLen] using k6⟩
theorem gates_of_stay {w : World} {base : Nat} {vo : Value} {gs : List PGate} (h : StayAt w base vo gs) : GatesAt w vo gs := by
  obtain ⟨A, c, rfl, hc1, hc2⟩ := h.form
  obtain ⟨ts, h1, h2, h3⟩ := h
  refine ⟨A, c, rfl, hc1, hc2, fun hp => ?_⟩
  obtain ⟨g, cap, e, hb, hlt, hcap⟩ := own_form h2 hp
  cases e
  refine ⟨g, 0, rfl, fun j x hj => ?_⟩
  have hjl := (List.getElem?_eq_some_iff.1 hj).1
  obtain ⟨t, ht⟩ : ∃ t, ts[j]? = some t := ⟨_, List.getElem?_eq_getElem (by omega)⟩
  obtain ⟨a1, a2, a3, a4, a5⟩ := h3 j t x ht hj
  have hc : ∀ r, r < 3 → w.cell? ⟨g, j * 3 + r, none⟩ = (enc3 t)[r]? := fun r hr => by
    rw [h2.cellAt (j * 3 + r) (by omega), gcells_get ts j r t ht hr]
  rw [Nat.zero_add]
  exact ⟨by rw [← a1]; exact hc 0 (by omega), by rw [← a2]; exact hc 1 (by omega), a3.1, a3.2.1, a3.2.2, _, hc 2 (by omega), a4⟩

def altB : Option Bool → List PBlock → Bool
  | _, [] => true
  | prev, b :: bs => !b.vars.isEmpty && decide (prev ≠ some b.ex) && altB (some b.ex) bs
theorem addVars_append (ys : List Int) : ∀ (xs : List Int) (n : Nat) (S : Nat → Bool), addVars n S (xs ++ ys) = (addVars n S xs).bind fun r => addVars r.1 r.2 ys
  | [], n, S => rfl
  | x :: xs, n, S => by
    simp only [List.cons_append, addVars]
    split
    · rfl
    · split
      · exact addVars_append ys xs _ _
      · rfl
theorem prefFrom_eq : ∀ (p : List PBlock) (prev : Option Bool) (n : Nat) (S : Nat → Bool), prefFrom prev n S p = if altB prev p = true then (addVars n S (varsOf p)).map (·.2) else none
  | [], prev, n, S => rfl
  | b :: bs, prev, n, S => by
    unfold prefFrom altB
    by_cases h1 : b.vars = []
    · rw [if_pos h1, h1]; rfl
    · have h1' : b.vars.isEmpty = false := by simpa using h1
      rw [if_neg h1, h1']
      by_cases h2 : prev = some b.ex
      · rw [if_pos h2, decide_eq_false (by simpa using h2)]; rfl
      · rw [if_neg h2, decide_eq_true h2]
        have e : varsOf (b :: bs) = b.vars ++ varsOf bs := rfl
        rw [e, addVars_append]
        cases addVars n S b.vars with
        | none => simp
        | some r => simp only [Option.bind_some]; rw [prefFrom_eq bs]; rfl
/-- What is added is new and a variable. -/
theorem addVars_cons {n : Nat} {S : Nat → Bool} {v : Int} {vs : List Int} {r : Nat × (Nat → Bool)} (h : addVars n S (v :: vs) = some r) : n + 1 ≤ 1024 ∧ addB S v = true ∧ addVars (n + 1) (upd S v.toNat true) vs = some r := by
  unfold addVars at h
  split at h
  · cases h
  · split at h
    · rename_i h1 h2; exact ⟨by omega, h2, h⟩
    · cases h
theorem addB_iff {S : Nat → Bool} {v : Int} : addB S v = true ↔ 1 ≤ v ∧ v ≤ 65536 ∧ S v.toNat = false := by
  simp [addB, and_assoc]
theorem addVars_rng : ∀ (vs : List Int) {n : Nat} {S : Nat → Bool} {r : Nat × (Nat → Bool)}, addVars n S vs = some r → (∀ v ∈ vs, 1 ≤ v ∧ v ≤ 65536) ∧ (vs = [] ∨ n + vs.length ≤ 1024) ∧ r.1 = n + vs.length
  | [], n, S, r, h => by injection h with h; subst h; exact ⟨fun v hv => absurd hv (List.not_mem_nil), .inl rfl, rfl⟩
  | x :: xs, n, S, r, h => by
    obtain ⟨h1, h2, h3⟩ := addVars_cons h
    obtain ⟨k1, k2, k3⟩ := addVars_rng xs h3
    rw [addB_iff] at h2
    refine ⟨fun v hv => ?_, .inr ?_, by rw [k3, List.length_cons]; omega⟩
    · rcases List.mem_cons.1 hv with rfl | hv
      · exact ⟨h2.1, h2.2.1⟩
      · exact k1 v hv
    · rcases k2 with rfl | k2
      · simpa using h1
      · rw [List.length_cons]; omega
/-- The set of what has been added. -/
theorem addVars_set : ∀ (vs : List Int) {n : Nat} {S : Nat → Bool} {r : Nat × (Nat → Bool)}, addVars n S vs = some r → ∀ i, r.2 i = (S i || decide ((i : Int) ∈ vs))
  | [], n, S, r, h, i => by injection h with h; subst h; simp
  | x :: xs, n, S, r, h, i => by
    obtain ⟨h1, h2, h3⟩ := addVars_cons h
    rw [addVars_set xs h3 i]
    rw [addB_iff] at h2
    unfold upd
    by_cases e : i = x.toNat
    · have : (i : Int) = x := by omega
      rw [if_pos e]; simp [this]
    · have : (i : Int) ≠ x := by omega
      rw [if_neg e]; simp [this]
theorem preS_of {N : PNet} (h : (prefFrom none 0 noS N.pre).isSome = true) : altB none N.pre = true ∧ ∃ r, addVars 0 noS (varsOf N.pre) = some r ∧ preS N = r.2 ∧ prefFrom none 0 noS N.pre = some r.2 := by
  rw [prefFrom_eq] at h
  by_cases ha : altB none N.pre = true
  · rw [if_pos ha] at h
    cases hr : addVars 0 noS (varsOf N.pre) with
    | none => rw [hr] at h; cases h
    | some r =>
      have e : prefFrom none 0 noS N.pre = some r.2 := by rw [prefFrom_eq, if_pos ha, hr]; rfl
      exact ⟨ha, r, rfl, by unfold preS; rw [e]; rfl, e⟩
  · rw [if_neg ha] at h; cases h
theorem preS_iff {N : PNet} (h : (prefFrom none 0 noS N.pre).isSome = true) (i : Nat) : preS N i = decide ((i : Int) ∈ varsOf N.pre) := by
  obtain ⟨_, r, hr, e, _⟩ := preS_of h
  rw [e, addVars_set _ hr]; simp [noS]
theorem pre_rng {N : PNet} (h : (prefFrom none 0 noS N.pre).isSome = true) : (∀ v ∈ varsOf N.pre, 1 ≤ v ∧ v ≤ 65536) ∧ (varsOf N.pre).length ≤ 1024 := by
  obtain ⟨_, r, hr, _, _⟩ := preS_of h
  obtain ⟨h1, h2, _⟩ := addVars_rng _ hr
  refine ⟨h1, ?_⟩
  rcases h2 with h2 | h2
  · rw [h2]; exact Nat.zero_le _
  · omega
theorem alt_ne : ∀ {p : List PBlock} {prev : Option Bool}, altB prev p = true → ∀ b ∈ p, b.vars ≠ []
  | [], _, _, b, hb => by cases hb
  | x :: xs, prev, h, b, hb => by
    simp only [altB, Bool.and_eq_true, Bool.not_eq_true'] at h
    rcases List.mem_cons.1 hb with rfl | hb
    · intro e; rw [e] at h; simp at h
    · exact alt_ne h.2 b hb
theorem varsOf_append (p q : List PBlock) : varsOf (p ++ q) = varsOf p ++ varsOf q := by simp [varsOf]
def SetR (S : Nat → Bool) : Prop := ∀ i, S i = true → 1 ≤ i ∧ i ≤ 65536
theorem SetR.upd {S : Nat → Bool} (h : SetR S) {v : Int} (hv : addB S v = true) : SetR (upd S v.toNat true) := fun i hi => by
  rw [addB_iff] at hv
  unfold YtnlobmepajakcaaGreatDoor.upd at hi
  split at hi
  · omega
  · exact h i hi
theorem preS_R {N : PNet} (h : (prefFrom none 0 noS N.pre).isSome = true) : SetR (preS N) := fun i hi => by
  rw [preS_iff h] at hi
  have := (pre_rng h).1 i (by simpa using hi)
  omega
theorem absN_pos {l : Int} (h : 1 ≤ absN l) : -65536 ≤ l ∧ l ≤ 65536 ∧ l ≠ 0 := by unfold absN absI at h; omega
theorem mayGates_cons {S S' : Nat → Bool} {g : PGate} {gs : List PGate} (h : mayGates S (g :: gs) = some S') : shapedB g.kind g.ins.length = true ∧ (∀ l ∈ g.ins, S (absN l) = true) ∧ addB S g.var = true ∧ mayGates (upd S g.var.toNat true) gs = some S' := by
  unfold mayGates at h
  split at h
  · cases h
  · rename_i h1
    split at h
    · cases h
    · rename_i h2
      split at h
      · rename_i h3
        exact ⟨by simpa using h1, by simpa using h2, h3, h⟩
      · cases h
theorem mayGates_lits : ∀ (gs : List PGate) {S S' : Nat → Bool}, SetR S → mayGates S gs = some S' → SetR S' ∧ (∀ g ∈ gs, ∀ l ∈ g.ins, 1 ≤ absN l) ∧ (∀ i, S' i = (S i || gs.any fun g => decide (g.var = i)))
  | [], S, S', hS, h => by injection h with h; subst h; exact ⟨hS, fun g hg => absurd hg (List.not_mem_nil), fun i => by simp⟩
  | x :: gs, S, S', hS, h => by
    obtain ⟨h1, h2, h3, h4⟩ := mayGates_cons h
    obtain ⟨k1, k2, k3⟩ := mayGates_lits gs (hS.upd h3) h4
    refine ⟨k1, fun g hg l hl => ?_, fun i => ?_⟩
    · rcases List.mem_cons.1 hg with rfl | hg
      · exact (hS _ (h2 l hl)).1
      · exact k2 g hg l hl
    · rw [k3 i]
      rw [addB_iff] at h3
      unfold YtnlobmepajakcaaGreatDoor.upd
      by_cases e : i = x.var.toNat
      · have : x.var = (i : Int) := by omega
        rw [if_pos e]; simp [this]
      · have : x.var ≠ (i : Int) := by omega
        rw [if_neg e]; simp [this]
theorem may_lits {N : PNet} (h : mayP N = true) : (∀ g ∈ N.gates, ∀ l ∈ g.ins, 1 ≤ absN l) ∧ 1 ≤ absN N.out := by
  obtain ⟨hp, _, S, hS, ho⟩ := mayP_pre h
  obtain ⟨k1, k2, k3⟩ := mayGates_lits _ (preS_R (by rw [hp]; rfl)) hS
  exact ⟨k2, (k1 _ ho).1⟩
def usedG (S : Nat → Bool) (gs : List PGate) : Nat → Bool := gs.foldl (fun S g => upd S g.var.toNat true) S
def noNet : PNet := ⟨[], [], 0⟩

def Sup (S : Nat → Bool) (x : Int) : Prop := x = 65537 ∨ x = -65537 ∨ (S (absN x) = true ∧ 1 ≤ absN x)
theorem Sup.mono {S T : Nat → Bool} {x : Int} (h : Sup S x) (hs : ∀ i, S i = true → T i = true) : Sup T x := h.imp id (Or.imp id (fun h => ⟨hs _ h.1, h.2⟩))
theorem litSum_append (xs ys : List PGate) : litSum (xs ++ ys) = litSum xs + litSum ys := by
  induction xs with
  | nil => simp [litSum]
  | cons x xs ih => simp only [List.cons_append, litSum, ih]; omega
theorem cell_none {w : World} {b : Nat} {o : Obj} (h : w.heap[b]? = some o) (ho : o.isCells = false) {a : Addr} {v : Value} (hb : a.block = b) : w.cell? a ≠ some v := by
  intro h2
  rw [World.cell?] at h2
  rw [hb, h] at h2
  cases o <;> simp_all [Obj.isCells]
/-- Only some blocks are left. -/
def keepOnly (p : Nat → Bool) (w : World) : World := { w with heap := w.heap.mapIdx fun i o => if p i then o else .deferred none }
theorem keepOnly_size (p : Nat → Bool) (w : World) : (keepOnly p w).heap.size = w.heap.size := by simp [keepOnly]
theorem keepOnly_same {p : Nat → Bool} {w : World} {k : Nat} (h : p k = true) : (keepOnly p w).heap[k]? = w.heap[k]? := by
  unfold keepOnly
  simp only [Array.getElem?_mapIdx, h, if_true]
  cases w.heap[k]? <;> rfl
theorem keeps_only {p : Nat → Bool} {w w' : World} (h : ∀ k, p k = true → k < w.heap.size → w'.heap[k]? = w.heap[k]?) : Keeps (keepOnly p w) w' := fun a v h0 => by
  have hlt := World.block_lt_of_cell? _ _ h0
  rw [keepOnly_size] at hlt
  cases hp : p a.block with
  | false =>
    have : (keepOnly p w).heap[a.block]? = some (.deferred none) := by
      unfold keepOnly
      simp only [Array.getElem?_mapIdx, hp]
      rw [Array.getElem?_eq_getElem hlt]; rfl
    exact absurd h0 (cell_none this rfl rfl)
  | true =>
    have h1 : w.cell? a = some v := (World.cell?_of_block (w' := w) (w := keepOnly p w) (keepOnly_same hp).symm).trans h0
    exact (World.cell?_of_block (h a.block hp hlt)).trans h1
/-- A net that reads as N whatever becomes of the blocks below n. -/
def NetF (n : Nat) (w : World) (v : Value) (N : PNet) : Prop := ∀ w', w.heap.size ≤ w'.heap.size → (∀ k, n ≤ k → k < w.heap.size → w'.heap[k]? = w.heap[k]?) → NetAt w' v N
theorem NetF.at {n : Nat} {w : World} {v : Value} {N : PNet} (h : NetF n w v N) : NetAt w v N := h w (Nat.le_refl _) (fun _ _ _ => rfl)
/-- A slice's parts. -/
def sl3 : Value → Option Addr × Nat × Nat
  | .slice A n c => (A, n, c)
  | _ => (none, 0, 0)
def gtOf (x : PE) : GT := (x.2.1.var, x.2.1.kind, (sl3 x.2.2).1, (sl3 x.2.2).2.1, (sl3 x.2.2).2.2)
theorem gates_of_cells {w : World} {base : Nat} {vo : Value} {gs : List PGate} {ts : List GT} (h1 : ts.length = gs.length) (h2 : w.ownsRow base 88 3 vo gs.length (gcells ts)) (hn : gs.length ≤ 9223372036854775807)
    (h3 : ∀ (i : Nat) (t : GT) (g : PGate), ts[i]? = some t → gs[i]? = some g → t.1 = g.var ∧ t.2.1 = g.kind ∧ (I64 g.var ∧ 0 ≤ g.kind ∧ g.kind ≤ 255) ∧ IntsAt w (.slice t.2.2.1 t.2.2.2.1 t.2.2.2.2) g.ins) : GatesAt w vo gs := by
  obtain ⟨A, c, rfl, hc1, hc2⟩ : ∃ A c, vo = .slice A gs.length c ∧ gs.length ≤ c ∧ c ≤ 9223372036854775807 := by
    rcases h2 with ⟨k1, ⟨rfl, k2⟩ | ⟨g, cap, cur, rfl, k3, k4, k5, k6, k7⟩⟩
    · exact ⟨none, 0, by rw [k2], by omega, by omega⟩
    · exact ⟨_, cap, rfl, k5, by simpa [maxLen] using k6⟩
  refine ⟨A, c, rfl, hc1, hc2, fun hp => ?_⟩
  obtain ⟨g, cap, e, hb, hlt, hcap⟩ := own_form h2 hp
  cases e
  refine ⟨g, 0, rfl, fun j x hj => ?_⟩
  have hjl := (List.getElem?_eq_some_iff.1 hj).1
  obtain ⟨t, ht⟩ : ∃ t, ts[j]? = some t := ⟨_, List.getElem?_eq_getElem (by omega)⟩
  obtain ⟨a1, a2, a3, a4⟩ := h3 j t x ht hj
  have hc : ∀ r, r < 3 → w.cell? ⟨g, j * 3 + r, none⟩ = (enc3 t)[r]? := fun r hr => by
    rw [h2.cellAt (j * 3 + r) (by omega), gcells_get ts j r t ht hr]
  rw [Nat.zero_add]
  exact ⟨by rw [← a1]; exact hc 0 (by omega), by rw [← a2]; exact hc 1 (by omega), a3.1, a3.2.1, a3.2.2, _, hc 2 (by omega), a4⟩
theorem es_gates {w : World} {A : Option Addr} {gates : List PGate} {es : List PE} (h : GatesL w A gates es) : es.map (·.2.1) = gates := by
  apply List.ext_getElem?
  intro k
  rw [List.getElem?_map]
  cases hx : es[k]? with
  | none =>
    have := List.getElem?_eq_none_iff.1 hx
    rw [List.getElem?_eq_none (by rw [← h.1]; exact this)]; rfl
  | some x => exact (h.2 k x hx).2.1.symm
theorem own_move {w w' : World} {base : Nat} {e : TypeId} {size : Nat} {v : Value} {n : Nat} {xs : List Value} (h : w.ownsRow base e size v n xs)
    (hk : ∀ b cs fr, base ≤ b → w.heap[b]? = some (.cells cs e fr) → w'.heap[b]? = some (.cells cs e fr)) : w'.ownsRow base e size v n xs := by
  rcases h with ⟨k1, h | ⟨g, cap, cur, k2, k3, k4, k5⟩⟩
  · exact ⟨k1, .inl h⟩
  · exact ⟨k1, .inr ⟨g, cap, cur, k2, k3, hk g cur _ k3 k4, k5⟩⟩
theorem KeepX.old {n₀ : Nat} {X : Nat → Prop} {T : TypeId} {A B : World} (h : KeepX n₀ X T A B) {k : Nat} (hk : k < A.heap.size) (hn : k < n₀) (hx : ¬ X k) : B.heap[k]? = A.heap[k]? :=
  h.block k hk (fun h' => h'.elim hx (fun h => by omega))
theorem KeepX.set {n₀ : Nat} {X : Nat → Prop} {T : TypeId} {A B : World} (h : KeepX n₀ X T A B) (a : Addr) (v : Value) (hx : X a.block) : KeepX n₀ X T A (B.setCell a v) :=
  h.grown (grown_setCell B a v) (fun r e => .inl (.inl (by injection e with e; rw [← e]; exact hx)))
theorem take_snoc {α : Type} {xs : List α} {k : Nat} {x : α} (h : xs[k]? = some x) : xs.take (k + 1) = xs.take k ++ [x] := by rw [List.take_add_one, h]; rfl
theorem BndM.vars {vs : List Int} : ∀ {M : Nat → Int}, BndM M → (∀ y ∈ vs, 0 ≤ y ∧ y ≤ 65536) → BndM (varM M vs) := by
  induction vs with
  | nil => intro M h _; exact h
  | cons x vs ih =>
    intro M h hv
    have hx := hv x (by simp)
    exact ih (h.upd _ (by omega) (by omega)) (fun y hy => hv y (by simp [hy]))
theorem row_set {w : World} {b i : Nat} {cs : Array Value} {t : TypeId} {fr : Nat × Nat} (h : w.heap[b]? = some (.cells cs t fr)) (v : Value) : (w.setCell ⟨b, i, none⟩ v).heap[b]? = some (.cells (cs.setIfInBounds i v) t fr) := by
  unfold World.setCell
  rw [Array.getElem?_modify, if_pos rfl, h]
  rfl

theorem net_no (w : World) : NetAt w (.agg #[.slice none 0 0, .slice none 0 0, .int .i64 0]) noNet :=
  ⟨_, _, rfl, by show I64 0; unfold I64; omega, ⟨none, 0, rfl, Nat.le_refl _, by omega, fun h => absurd h (Nat.lt_irrefl 0)⟩, ⟨none, 0, rfl, Nat.le_refl _, by omega, fun h => absurd h (Nat.lt_irrefl 0)⟩⟩
theorem put25 {W : World} {b : Nat} {a0 a1 a2 : Value} {t : TypeId} (h : W.heap[b]? = some (.cells #[a0, a1, a2] t (0, 0))) (v0 v1 v2 : Value) :
    W.frozen? ⟨b, 0, none⟩ = false ∧ W.cell? ⟨b, 0, none⟩ = some a0 ∧ (W.setCell ⟨b, 0, none⟩ v0).frozen? ⟨b, 1, none⟩ = false ∧ (W.setCell ⟨b, 0, none⟩ v0).cell? ⟨b, 1, none⟩ = some a1 ∧
    ((W.setCell ⟨b, 0, none⟩ v0).setCell ⟨b, 1, none⟩ v1).frozen? ⟨b, 2, none⟩ = false ∧ ((W.setCell ⟨b, 0, none⟩ v0).setCell ⟨b, 1, none⟩ v1).cell? ⟨b, 2, none⟩ = some a2 ∧
    (((W.setCell ⟨b, 0, none⟩ v0).setCell ⟨b, 1, none⟩ v1).setCell ⟨b, 2, none⟩ v2).heap[b]? = some (.cells #[v0, v1, v2] t (0, 0)) ∧
    W.grownBy (((W.setCell ⟨b, 0, none⟩ v0).setCell ⟨b, 1, none⟩ v1).setCell ⟨b, 2, none⟩ v2) (some b) := by
  have r1 := row_set h (i := 0) v0
  have r2 := row_set r1 (i := 1) v1
  have r3 := row_set r2 (i := 2) v2
  exact ⟨frozen_of_row _ b 0 _ _ h, cell_row h rfl, frozen_of_row _ b 1 _ _ r1, cell_row r1 rfl, frozen_of_row _ b 2 _ _ r2, cell_row r2 rfl, r3,
    ((grown_setCell W ⟨b, 0, none⟩ _).trans (grown_setCell _ ⟨b, 1, none⟩ _)).trans (grown_setCell _ ⟨b, 2, none⟩ _)⟩

theorem absI_N (l : Int) : absI l = (absN l : Int) := by
  have := absI_nn l
  unfold absN; omega
theorem usedG_iff : ∀ (gs : List PGate) (S : Nat → Bool) (i : Nat), usedG S gs i = (S i || gs.any fun g => g.var.toNat == i)
  | [], S, i => by simp [usedG]
  | g :: gs, S, i => by
    have e : usedG S (g :: gs) = usedG (upd S g.var.toNat true) gs := rfl
    rw [e, usedG_iff gs]
    unfold upd
    by_cases h : i = g.var.toNat
    · rw [if_pos h]; simp [h]
    · have : (g.var.toNat == i) = false := by rw [beq_eq_false_iff_ne]; exact fun e => h e.symm
      rw [if_neg h]; simp [this]

theorem u86 : Tryz.prog.underlying 138 = some (.array 65537 4) := by kernel_rfl

/-- The boxes of Compose's parameters and results, as they lie before the end. -/
def Boxes (b : Nat) (n0 n1 m0 m1 : Value) (no v mo : Int) (W : World) : Prop :=
  W.heap[b]? = some (.cells #[n0, n1, .int .i64 no] 40 (0, 0)) ∧ W.heap[b + 1]? = some (.cells #[.int .i64 v] 3 (0, 0)) ∧ W.heap[b + 1 + 1]? = some (.cells #[m0, m1, .int .i64 mo] 40 (0, 0)) ∧
  W.heap[b + 1 + 1 + 1]? = some (.cells #[.slice none 0 0, .slice none 0 0, .int .i64 0] 40 (0, 0)) ∧ W.heap[b + 1 + 1 + 1 + 1]? = some (.cells #[.int .i64 0] 29 (0, 0))
theorem Boxes.keep {b : Nat} {n0 n1 m0 m1 : Value} {no v mo : Int} {W W' : World} (h : Boxes b n0 n1 m0 m1 no v mo W) (hk : ∀ k, b ≤ k → k < b + 5 → W'.heap[k]? = W.heap[k]?) : Boxes b n0 n1 m0 m1 no v mo W' :=
  ⟨(hk _ (by omega) (by omega)).trans h.1, (hk _ (by omega) (by omega)).trans h.2.1, (hk _ (by omega) (by omega)).trans h.2.2.1, (hk _ (by omega) (by omega)).trans h.2.2.2.1, (hk _ (by omega) (by omega)).trans h.2.2.2.2⟩
theorem Boxes.lt {b : Nat} {n0 n1 m0 m1 : Value} {no v mo : Int} {W : World} (h : Boxes b n0 n1 m0 m1 no v mo W) : b + 5 ≤ W.heap.size := row_lt h.2.2.2.2
theorem Boxes.below {b : Nat} {n0 n1 m0 m1 : Value} {no v mo : Int} {W W' : World} (h : Boxes b n0 n1 m0 m1 no v mo W) (hB : Below W.heap.size W W') : Boxes b n0 n1 m0 m1 no v mo W' :=
  h.keep (fun k _ h2 => hB.block k (by have := h.lt; omega))
theorem Boxes.grown {b : Nat} {n0 n1 m0 m1 : Value} {no v mo : Int} {W W' : World} {row : Option Nat} (h : Boxes b n0 n1 m0 m1 no v mo W) (hG : W.grownBy W' row) (hr : ∀ r, row = some r → b + 5 ≤ r) : Boxes b n0 n1 m0 m1 no v mo W' :=
  h.keep (fun k _ h2 => hG.block k (by have := h.lt; omega) (fun e => by have := hr k e.symm; omega))
theorem Boxes.cells {b : Nat} {n0 n1 m0 m1 : Value} {no v mo : Int} {W : World} (h : Boxes b n0 n1 m0 m1 no v mo W) :
    W.cell? ⟨b, 0, none⟩ = some n0 ∧ W.cell? ⟨b, 1, none⟩ = some n1 ∧ W.cell? ⟨b, 2, none⟩ = some (.int .i64 no) ∧ W.cell? ⟨b + 1, 0, none⟩ = some (.int .i64 v) ∧
    W.cell? ⟨b + 1 + 1, 0, none⟩ = some m0 ∧ W.cell? ⟨b + 1 + 1, 1, none⟩ = some m1 ∧ W.cell? ⟨b + 1 + 1, 2, none⟩ = some (.int .i64 mo) :=
  ⟨cell_row h.1 rfl, cell_row h.1 rfl, cell_row h.1 rfl, cell_row h.2.1 rfl, cell_row h.2.2.1 rfl, cell_row h.2.2.1 rfl, cell_row h.2.2.1 rfl⟩
end Go.Proofs.YtnlobmepajakcaaGreatDoor
