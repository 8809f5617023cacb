/- What circ.without does; the condition: each block has a variable, the variables lie from 1 to 65,536, and there are at most 2^20 of them. -/
import Derived.Test.YtnlobmepajakcaaSlices
import Derived.Test.YtnlobmepajakcaaSimplA
set_option linter.unusedVariables false
set_option linter.unusedSimpArgs false
namespace Go.Proofs.Ytnlobmepajakcaa
open Go.RowKit Go.Shelf

set_option maxHeartbeats 1000000 in
theorem gone94 (B b t : Nat) (S : Nat → Bool) (v : Int) (w : World) (hs : SetAt w b t S) (hc : w.cell? ⟨B, 0, none⟩ = some (.pointer (some ⟨b, 0, none⟩))) (h0 : 0 ≤ v) (h1 : v ≤ 65536) :
    Calls Try.prog 94 (#[] ++ #[.int .i64 v] ++ #[.pointer (some ⟨B, 0, none⟩)]) w fun e w' => e = .returned (.bool (S v.toNat)) ∧ w' = w := by
  obtain ⟨k, rfl⟩ := Int.eq_ofNat_of_zero_le h0
  have hk : k < 65537 := by omega
  have hcv := hs.cell k hk
  rw [Int.toNat_natCast]
  have h2 : (k : Int) < 65537 := by omega
  clear h0 h1 hs
  generalize S k = r at hcv ⊢
  go_enter Try.func94, Try.ntmps94
  go_wp2
  go_ret
  exact ⟨rfl, rfl⟩

/-! ### A prefix in the making -/
def bcells : List PBlock → List Value → List Value
  | x :: xs, v :: vs => .bool x.ex :: v :: bcells xs vs
  | _, _ => []
theorem bcells_snoc : ∀ (xs : List PBlock) (vs : List Value) (x : PBlock) (v : Value), vs.length = xs.length → bcells (xs ++ [x]) (vs ++ [v]) = bcells xs vs ++ [.bool x.ex, v]
  | [], [], x, v, _ => rfl
  | [], _ :: _, _, _, h => by simp at h
  | _ :: _, [], _, _, h => by simp at h
  | y :: xs, u :: vs, x, v, h => by
    simp only [List.cons_append, bcells]
    rw [bcells_snoc xs vs x v (by simpa using h)]
theorem bcells_length : ∀ (xs : List PBlock) (vs : List Value), vs.length = xs.length → (bcells xs vs).length = xs.length * 2
  | [], [], _ => rfl
  | [], _ :: _, h => by simp at h
  | _ :: _, [], h => by simp at h
  | y :: xs, u :: vs, h => by
    simp only [bcells, List.length_cons]
    rw [bcells_length xs vs (by simpa using h)]; omega
theorem bcells_get : ∀ (xs : List PBlock) (vs : List Value) (i : Nat) (x : PBlock), vs.length = xs.length → xs[i]? = some x →
    (bcells xs vs)[i * 2]? = some (.bool x.ex) ∧ ∃ v, vs[i]? = some v ∧ (bcells xs vs)[i * 2 + 1]? = some v
  | [], _, _, _, _, h => by simp at h
  | _ :: _, [], _, _, h, _ => by simp at h
  | y :: xs, u :: vs, 0, x, _, h => by
    injection h with h; subst h
    exact ⟨rfl, u, rfl, rfl⟩
  | y :: xs, u :: vs, i + 1, x, hl, h => by
    obtain ⟨h1, v, h2, h3⟩ := bcells_get xs vs i x (by simpa using hl) (by simpa using h)
    have e : (i + 1) * 2 = i * 2 + 2 := by omega
    refine ⟨by rw [e]; exact h1, v, by simpa using h2, by rw [e]; exact h3⟩

/-- The result in the making: all but its last block are read, the last one's variables can be appended to. -/
def OutAt (w : World) (base : Nat) (vo : Value) (out : List PBlock) : Prop :=
  (out = [] ∧ vo = .slice none 0 0) ∨ ∃ (init : List PBlock) (x : PBlock) (vi : List Value) (vl : Value), out = init ++ [x] ∧ vi.length = init.length ∧
    w.ownsRow base 80 2 vo (init.length + 1) (bcells init vi ++ [.bool x.ex, vl]) ∧ w.ownsRow base 3 1 vl x.vars.length (nums x.vars) ∧
    (∀ b, vl.ownBlock = some b → vo.ownBlock ≠ some b) ∧
    ∀ (i : Nat) (y : PBlock) (v : Value), init[i]? = some y → vi[i]? = some v → IntsAt w v y.vars ∧ ∀ b, v.ownBlock = some b → vl.ownBlock ≠ some b ∧ vo.ownBlock ≠ some b ∧ b < w.heap.size ∧ base ≤ b
theorem OutAt.below {w w1 : World} {base : Nat} {vo : Value} {out : List PBlock} (h : OutAt w base vo out) (hB : Below w.heap.size w w1) : OutAt w1 base vo out := by
  rcases h with h | ⟨init, x, vi, vl, h1, h2, h3, h4, h4b, h5⟩
  · exact .inl h
  · have kn : ∀ v : Value, v.ownBlock = none ∨ v.ownBlock ≠ none := fun v => by cases v.ownBlock <;> simp
    refine .inr ⟨init, x, vi, vl, h1, h2, h3.kept (grown_of_below hB none) (kn _), h4.kept (grown_of_below hB none) (kn _), h4b, fun i y v hy hv => ?_⟩
    obtain ⟨k1, k2⟩ := h5 i y v hy hv
    exact ⟨k1.keep (keeps_below hB), fun b hb => ⟨(k2 b hb).1, (k2 b hb).2.1, Nat.lt_of_lt_of_le (k2 b hb).2.2.1 hB.size, (k2 b hb).2.2.2⟩⟩
/-- The shape of the result. -/
theorem OutAt.form {w : World} {base : Nat} {vo : Value} {out : List PBlock} (h : OutAt w base vo out) : ∃ A c, vo = .slice A out.length c ∧ out.length ≤ 9223372036854775807 := by
  rcases h with ⟨rfl, rfl⟩ | ⟨init, x, vi, vl, rfl, h2, h3, h4, _⟩
  · exact ⟨none, 0, rfl, by simp⟩
  · rcases h3.2 with ⟨_, h⟩ | ⟨g, cap, cur, rfl, _, _, k1, k2, _⟩
    · omega
    · refine ⟨some ⟨g, 0, none⟩, cap, by simp, ?_⟩
      simp only [maxLen] at k2
      simp; omega
/-- A block is appended. -/
theorem OutAt.push {w0 w w1 : World} {base : Nat} {vo vo1 vl2 : Value} {out : List PBlock} {x2 : PBlock} (h : OutAt w0 base vo out) (hx64 : ∀ x ∈ out, ∀ y ∈ x.vars, I64 y) (hB : Below w0.heap.size w0 w)
    (hl : w.ownsRow base 3 1 vl2 x2.vars.length (nums x2.vars)) (hf : ∀ b, vl2.ownBlock = some b → w0.heap.size ≤ b)
    (hrow : ∀ xs, w.ownsRow base 80 2 vo out.length xs → w1.ownsRow base 80 2 vo1 (out.length + 1) (xs ++ [.bool x2.ex, vl2]))
    (hg : w.grownBy w1 vo.ownBlock) (hv1 : ∀ b, vo1.ownBlock = some b → vo.ownBlock = some b ∨ w.heap.size ≤ b) : OutAt w1 base vo1 (out ++ [x2]) := by
  have hlt2 : ∀ b, vl2.ownBlock = some b → b < w.heap.size := fun b hb => (hl.lt b hb).2
  have hne2 : vl2.ownBlock = none ∨ vl2.ownBlock ≠ vo.ownBlock := by
    cases hb : vl2.ownBlock with
    | none => exact .inl rfl
    | some b =>
      right
      intro e
      rcases h with ⟨_, rfl⟩ | ⟨init, x, vi, vl, _, _, h3, _⟩
      · cases e
      · have := (h3.lt b e.symm).2
        have := hf b hb
        omega
  have hl1 := hl.kept hg hne2
  have hv2 : ∀ b, vl2.ownBlock = some b → vo1.ownBlock ≠ some b := fun b hb e => by
    rcases hv1 b e with h' | h'
    · rcases hne2 with h'' | h''
      · rw [h''] at hb; cases hb
      · exact h'' (hb.trans h'.symm)
    · have := hlt2 b hb; omega
  rcases h with ⟨rfl, rfl⟩ | ⟨init, x, vi, vl, rfl, h2, h3, h4, h4b, h5⟩
  · have := hrow [] (World.ownsRow_nil _ _ _ _)
    exact .inr ⟨[], x2, [], vl2, rfl, rfl, this, hl1, hv2, fun i y v hy => by simp at hy⟩
  · have kn : ∀ v : Value, v.ownBlock = none ∨ v.ownBlock ≠ none := fun v => by cases v.ownBlock <;> simp
    have h3' := h3.kept (grown_of_below hB none) (kn _)
    have h4' := h4.kept (grown_of_below hB none) (kn _)
    have hlen : (init ++ [x]).length = init.length + 1 := by simp
    have hr := hrow (bcells init vi ++ [.bool x.ex, vl]) (by rw [hlen]; exact h3')
    rw [hlen] at hr
    have h4lt := fun b hb => (h4.lt b hb).2
    have keepI : ∀ (v : Value) (ys : List Int), IntsAt w v ys → (∀ b, v.ownBlock = some b → vo.ownBlock ≠ some b) → IntsAt w1 v ys := fun v ys hi hn => by
      obtain ⟨A, c, rfl, k1, k2, k3⟩ := hi
      refine ⟨A, c, rfl, k1, k2, fun hp => ?_⟩
      obtain ⟨b, off, rfl, k4⟩ := k3 hp
      exact ⟨b, off, rfl, fun j y hy => ⟨hg.cell (k4 j y hy).1 (fun e => hn b rfl e.symm), (k4 j y hy).2⟩⟩
    refine .inr ⟨init ++ [x], x2, vi ++ [vl], vl2, rfl, by simp [h2], by rw [hlen, bcells_snoc init vi x vl h2]; exact hr, hl1, hv2, fun i y v hy hv => ?_⟩
    have old : IntsAt w v y.vars ∧ ∀ b, v.ownBlock = some b → vo.ownBlock ≠ some b ∧ b < w0.heap.size ∧ base ≤ b := by
      by_cases hi : i < init.length
      · rw [List.getElem?_append_left hi] at hy
        rw [List.getElem?_append_left (by omega)] at hv
        obtain ⟨k1, k2⟩ := h5 i y v hy hv
        exact ⟨k1.keep (keeps_below hB), fun b hb => ⟨(k2 b hb).2.1, (k2 b hb).2.2.1, (k2 b hb).2.2.2⟩⟩
      · have hil : i = init.length := by
          have := (List.getElem?_eq_some_iff.1 hy).1
          simp at this; omega
        subst hil
        rw [List.getElem?_concat_length] at hy
        rw [← h2, List.getElem?_concat_length] at hv
        injection hy with hy; injection hv with hv
        subst hy; subst hv
        have hm : x.vars.length ≤ 9223372036854775807 := by
          rcases h4.2 with ⟨_, h⟩ | ⟨_, _, _, _, _, _, k1, k2, _⟩
          · omega
          · simp only [maxLen] at k2; omega
        exact ⟨ints_of_own h4' (hx64 x (by simp)) hm, fun b hb => ⟨h4b b hb, h4lt b hb, (h4.lt b hb).1⟩⟩
    refine ⟨keepI v _ old.1 (fun b hb => (old.2 b hb).1), fun b hb => ⟨fun e => ?_, fun e => ?_, ?_, (old.2 b hb).2.2⟩⟩
    · have := hf b e; have := (old.2 b hb).2.1; omega
    · rcases hv1 b e with h' | h'
      · exact (old.2 b hb).1 h'
      · have := (old.2 b hb).2.1; have := hB.size; omega
    · have := (old.2 b hb).2.1; have := hB.size; have := hg.size; omega
/-- The last block's variables grow. -/
theorem OutAt.ext {w w1 : World} {base go cap : Nat} {init : List PBlock} {x : PBlock} {vi : List Value} {vl vl1 : Value} {l : List Int} (h2 : vi.length = init.length)
    (h3 : w.ownsRow base 80 2 (.slice (some ⟨go, 0, none⟩) (init.length + 1) cap) (init.length + 1) (bcells init vi ++ [.bool x.ex, vl])) (h4 : w.ownsRow base 3 1 vl x.vars.length (nums x.vars))
    (h4b : ∀ b, vl.ownBlock = some b → b ≠ go)
    (h5 : ∀ (i : Nat) (y : PBlock) (v : Value), init[i]? = some y → vi[i]? = some v → IntsAt w v y.vars ∧ ∀ b, v.ownBlock = some b → vl.ownBlock ≠ some b ∧ b ≠ go ∧ b < w.heap.size ∧ base ≤ b)
    (hl : w1.ownsRow base 3 1 vl1 (x.vars ++ l).length (nums (x.vars ++ l))) (hg : w.grownBy w1 vl.ownBlock) (hv1 : ∀ b, vl1.ownBlock = some b → vl.ownBlock = some b ∨ w.heap.size ≤ b) :
    OutAt (w1.setCell ⟨go, init.length * 2 + 1, none⟩ vl1) base (.slice (some ⟨go, 0, none⟩) (init.length + 1) cap) (init ++ [⟨x.ex, x.vars ++ l⟩]) := by
  have hgo : go < w.heap.size := (h3.lt go rfl).2
  have h3' : w1.ownsRow base 80 2 (.slice (some ⟨go, 0, none⟩) (init.length + 1) cap) (init.length + 1) (bcells init vi ++ [.bool x.ex, vl]) := by
    refine h3.kept hg (.inr fun e => ?_)
    exact h4b go e.symm rfl
  have hst := (h3'.stored (init.length * 2 + 1) vl1).1
  have hset : (bcells init vi ++ [Value.bool x.ex, vl]).set (init.length * 2 + 1) vl1 = bcells init vi ++ [.bool x.ex, vl1] := by
    have hlen2 := bcells_length init vi h2
    rw [List.set_append_right _ _ (by omega), hlen2, show init.length * 2 + 1 - init.length * 2 = 1 by omega]
    rfl
  rw [hset] at hst
  have hb1 : ∀ b, vl1.ownBlock = some b → b ≠ go := fun b hb e => by
    rcases hv1 b hb with h | h
    · exact h4b b h e
    · omega
  have hl1 := hl.kept (grown_setCell w1 ⟨go, init.length * 2 + 1, none⟩ vl1) (by
    cases hb : vl1.ownBlock with
    | none => exact .inl rfl
    | some b => right; intro e; injection e with e; exact hb1 b hb e)
  refine .inr ⟨init, ⟨x.ex, x.vars ++ l⟩, vi, vl1, rfl, h2, hst, hl1, fun b hb e => ?_, fun i y v hy hv => ?_⟩
  · injection e with e; exact hb1 b hb e.symm
  · obtain ⟨k1, k2⟩ := h5 i y v hy hv
    have hi1 : IntsAt w1 v y.vars := IntsAt.kept k1 hg (fun b hb e => (k2 b hb).1 e)
    have hi2 := IntsAt.kept hi1 (grown_setCell w1 ⟨go, init.length * 2 + 1, none⟩ vl1) (fun b hb e => (k2 b hb).2.1 (by injection e with e; exact e.symm))
    refine ⟨hi2, fun b hb => ⟨fun e => ?_, fun e => (k2 b hb).2.1 (by injection e with e; exact e.symm), ?_, (k2 b hb).2.2.2⟩⟩
    · rcases hv1 b e with h | h
      · exact (k2 b hb).1 h
      · have := (k2 b hb).2.2.1; omega
    · have := (k2 b hb).2.2.1
      have := hg.size
      simp [World.setCell]; omega
theorem blocks_of_out {w : World} {base : Nat} {vo : Value} {out : List PBlock} (h : OutAt w base vo out) (hx64 : ∀ x ∈ out, ∀ y ∈ x.vars, I64 y) : BlocksAt w vo out := by
  rcases h with ⟨rfl, rfl⟩ | ⟨init, x, vi, vl, rfl, h2, h3, h4, h4b, h5⟩
  · exact ⟨none, 0, rfl, Nat.le_refl _, by omega, fun h => by simp at h⟩
  · have hl4 : IntsAt w vl x.vars := by
      refine ints_of_own h4 (hx64 x (by simp)) ?_
      rcases h4.2 with ⟨_, h⟩ | ⟨_, _, _, _, _, _, k1, k2, _⟩
      · omega
      · simp only [maxLen] at k2; omega
    rcases h3.2 with ⟨_, h⟩ | ⟨g, cap, cur, rfl, hb, hh, k1, k2, k3, k4⟩
    · omega
    · refine ⟨some ⟨g, 0, none⟩, cap, by simp, by simpa using k1, by simpa [maxLen] using k2, fun _ => ⟨g, 0, rfl, fun j y hj => ?_⟩⟩
      have hadd : ∀ m, (⟨g, 0, none⟩ : Addr).add m = ⟨g, m, none⟩ := fun m => by unfold Addr.add; split <;> simp_all
      have hc : ∀ m u, (bcells init vi ++ [Value.bool x.ex, vl])[m]? = some u → w.cell? ⟨g, m, none⟩ = some u := fun m u hu => by
        have := h3.cells (g := g) rfl m u hu
        rwa [hadd] at this
      rw [← bcells_snoc init vi x vl h2] at hc
      obtain ⟨c1, v, c2, c3⟩ := bcells_get (init ++ [x]) (vi ++ [vl]) j y (by simp [h2]) hj
      rw [Nat.zero_add]
      refine ⟨hc _ _ c1, v, hc _ _ c3, ?_⟩
      by_cases hi : j < init.length
      · rw [List.getElem?_append_left hi] at hj
        rw [List.getElem?_append_left (by omega)] at c2
        exact (h5 j y v hj c2).1
      · have hil : j = init.length := by
          have := (List.getElem?_eq_some_iff.1 hj).1
          simp at this; omega
        subst hil
        rw [List.getElem?_concat_length] at hj
        rw [← h2, List.getElem?_concat_length] at c2
        injection hj with hj; injection c2 with c2
        subst hj; subst c2
        exact hl4
/-! ### The walk of without -/
def keepV (S : Nat → Bool) (xs : List Int) : List Int := xs.filter fun v => !S v.toNat
def gstep (S : Nat → Bool) (out : List PBlock) (b : PBlock) : List PBlock :=
  match out.getLast? with
  | some x => if x.ex = b.ex then out.dropLast ++ [⟨x.ex, x.vars ++ keepV S b.vars⟩] else if keepV S b.vars = [] then out else out ++ [⟨b.ex, keepV S b.vars⟩]
  | none => if keepV S b.vars = [] then out else out ++ [⟨b.ex, keepV S b.vars⟩]
def withoutP (S : Nat → Bool) (p : List PBlock) : List PBlock := p.foldl (gstep S) []
theorem gstep_same {S : Nat → Bool} {init : List PBlock} {x b : PBlock} (h : x.ex = b.ex) : gstep S (init ++ [x]) b = init ++ [⟨x.ex, x.vars ++ keepV S b.vars⟩] := by
  unfold gstep; simp [h]
theorem gstep_push {S : Nat → Bool} {out : List PBlock} {b : PBlock} (h : ∀ x, out.getLast? = some x → x.ex ≠ b.ex) :
    gstep S out b = if keepV S b.vars = [] then out else out ++ [⟨b.ex, keepV S b.vars⟩] := by
  unfold gstep
  cases hl : out.getLast? with
  | none => rfl
  | some x => simp [h x hl]
theorem keepV_mem {S : Nat → Bool} {xs : List Int} {v : Int} (h : v ∈ keepV S xs) : v ∈ xs := (List.mem_filter.1 h).1
theorem keepV_length (S : Nat → Bool) (xs : List Int) : (keepV S xs).length ≤ xs.length := List.length_filter_le _ _

theorem own_lower {w : World} {base base' : Nat} {e : TypeId} {size : Nat} {v : Value} {n : Nat} {xs : List Value} (h : w.ownsRow base e size v n xs) (hb : base' ≤ base) : w.ownsRow base' e size v n xs := by
  rcases h with ⟨h1, h2 | ⟨g, cap, cur, h2, h3, h4⟩⟩
  · exact ⟨h1, .inl h2⟩
  · exact ⟨h1, .inr ⟨g, cap, cur, h2, Nat.le_trans hb h3, h4⟩⟩
theorem own_unique {w : World} {base : Nat} {e : TypeId} {size : Nat} {v : Value} {n : Nat} {xs ys : List Value} (h : w.ownsRow base e size v n xs) (k : w.ownsRow base e size v n ys) : xs = ys := by
  rcases h with ⟨h1, ⟨rfl, rfl⟩ | ⟨g, cap, cur, rfl, _, h4, _, _, _, h5⟩⟩
  · have k1 := k.1
    rw [List.eq_nil_of_length_eq_zero (by omega : xs.length = 0), List.eq_nil_of_length_eq_zero (by omega : ys.length = 0)]
  · rcases k with ⟨k1, ⟨k2, k3⟩ | ⟨g2, cap2, cur2, k2, _, k4, _, _, _, k5⟩⟩
    · cases k2
    · cases k2
      rw [h4] at k4
      cases k4
      rw [← h5, ← k5]
theorem own_shape {w : World} {base : Nat} {e : TypeId} {size : Nat} {v : Value} {n : Nat} {xs : List Value} (h : w.ownsRow base e size v n xs) : ∃ A c, v = .slice A n c := by
  rcases h with ⟨h1, ⟨rfl, rfl⟩ | ⟨g, cap, cur, rfl, _⟩⟩
  · exact ⟨none, 0, rfl⟩
  · exact ⟨_, _, rfl⟩
theorem OutAt.row {w : World} {base : Nat} {vo : Value} {out : List PBlock} (h : OutAt w base vo out) : ∃ xs, w.ownsRow base 80 2 vo out.length xs := by
  rcases h with ⟨rfl, rfl⟩ | ⟨init, x, vi, vl, rfl, h2, h3, h4, _⟩
  · exact ⟨[], World.ownsRow_nil _ _ _ _⟩
  · exact ⟨_, by rw [List.length_append]; exact h3⟩
theorem drewN_own {w : World} {base : Nat} {e : TypeId} {size : Nat} {v : Value} {n : Nat} {xs : List Value} (h : w.ownsRow base e size v n xs) (q : Nat) : (w.drewN q).ownsRow base e size v n xs := h
section
variable {ops : Array Oper} {rest : List Oper} {o : Oper} {a : Act} {Q : Exit → Act → World → Prop}
theorem OutAt.lower {w : World} {base base' : Nat} {vo : Value} {out : List PBlock} (h : OutAt w base vo out) (hb : base' ≤ base) : OutAt w base' vo out := by
  rcases h with h | ⟨init, x, vi, vl, h1, h2, h3, h4, h5⟩
  · exact .inl h
  · exact .inr ⟨init, x, vi, vl, h1, h2, own_lower h3 hb, own_lower h4 hb, h5.1, fun i y v hy hv => ⟨(h5.2 i y v hy hv).1, fun b hb' => ⟨((h5.2 i y v hy hv).2 b hb').1, ((h5.2 i y v hy hv).2 b hb').2.1, ((h5.2 i y v hy hv).2 b hb').2.2.1, Nat.le_trans hb ((h5.2 i y v hy hv).2 b hb').2.2.2⟩⟩⟩
theorem append_ints {W : World} (base b2 : Nat) (hgd : o.guard = none) (s x : Operand) (ho : o.op = .call { callee := .builtin .append, args := #[s, x], argTypes := #[26, 26] })
    (v : Value) (n : Nat) (xs : List Int) (g m cap : Nat) (ys : List Int) (hs : a.eval s = v) (hx : a.eval x = .slice (some ⟨g, 0, none⟩) m cap)
    (HO : W.ownsRow base 3 1 v n (nums xs)) (HY : W.ownsRow b2 3 1 (.slice (some ⟨g, 0, none⟩) m cap) m (nums ys)) (hbase : base ≤ W.heap.size) (hl : (n + m) * 8 ≤ 140737488355328)
    (h : ∀ v1 w1, w1.ownsRow base 3 1 v1 (n + m) (nums (xs ++ ys)) → W.grownBy w1 v.ownBlock → (v1.ownBlock = v.ownBlock ∨ v1.ownBlock = some W.heap.size) → wpList Try.prog ops Q rest (a.put o.dst v1) w1) :
    wpList Try.prog ops Q (o :: rest) a W := by
  obtain ⟨i0, hi, hzz⟩ := Option.map_eq_some_iff.1 info3
  simp only [Prod.mk.injEq] at hzz
  obtain ⟨hz0, hz1, hz2⟩ := hzz
  have hml : (nums ys).length = m * 1 := HY.1
  refine wpList_append_own_at W hgd s x 26 ho base 3 i0 (.int .i64 0) 1 8 Try.underlying26 hi hz0 hz1 hz2 rfl (by decide) v n (nums xs) hs HO ⟨g, 0, none⟩ m cap (nums ys) hx hml (fun j u hj => HY.cells rfl j u hj)
    (fun u hu => ?_) (by simp only [maxLen]; omega) hl hbase (fun v1 w1 h1 h2 _ h3 => h v1 w1 ?_ h2 h3)
  · obtain ⟨z, _, rfl⟩ := List.mem_map.1 hu; rfl
  · have e : nums (xs ++ ys) = nums xs ++ nums ys := List.map_append
    rw [e]; exact h1
end
/-- Sizes of a result in the making. -/
def OutB (k : Nat) (out : List PBlock) : Prop := ∀ z ∈ out, z.vars.length ≤ k * 65536 ∧ ∀ y ∈ z.vars, 0 ≤ y ∧ y ≤ 65536
theorem OutB.nil (k : Nat) : OutB k [] := fun z hz => by cases hz
theorem OutB.up {k : Nat} {out : List PBlock} (h : OutB k out) : OutB (k + 1) out := fun z hz => ⟨Nat.le_trans (h z hz).1 (Nat.mul_le_mul_right _ (Nat.le_succ k)), (h z hz).2⟩
theorem OutB.push {k : Nat} {out : List PBlock} (h : OutB k out) {e : Bool} {l : List Int} (hl : l.length ≤ 65536) (h2 : ∀ y ∈ l, 0 ≤ y ∧ y ≤ 65536) : OutB (k + 1) (out ++ [⟨e, l⟩]) := fun z hz => by
  rw [List.mem_append, List.mem_singleton] at hz
  rcases hz with hz | rfl
  · exact h.up z hz
  · exact ⟨Nat.le_trans hl (Nat.le_mul_of_pos_left _ (Nat.succ_pos k)), h2⟩
theorem OutB.ext {k : Nat} {init : List PBlock} {x : PBlock} (h : OutB k (init ++ [x])) {l : List Int} (hl : l.length ≤ 65536) (h2 : ∀ y ∈ l, 0 ≤ y ∧ y ≤ 65536) : OutB (k + 1) (init ++ [⟨x.ex, x.vars ++ l⟩]) := fun z hz => by
  have hx := h x (by simp)
  rw [List.mem_append, List.mem_singleton] at hz
  rcases hz with hz | rfl
  · exact h.up z (by simp [hz])
  · refine ⟨?_, fun y hy => ?_⟩
    · have h1 := hx.1
      have e : (x.vars ++ l).length = x.vars.length + l.length := List.length_append
      have e2 : (k + 1) * 65536 = k * 65536 + 65536 := Nat.succ_mul k 65536
      show (x.vars ++ l).length ≤ (k + 1) * 65536
      omega
    rcases List.mem_append.1 hy with hy | hy
    · exact hx.2 y hy
    · exact h2 y hy
theorem last_cells {w : World} {base go cap : Nat} {init : List PBlock} {x : PBlock} {vi : List Value} {vl : Value} (h2 : vi.length = init.length)
    (h3 : w.ownsRow base 80 2 (.slice (some ⟨go, 0, none⟩) (init.length + 1) cap) (init.length + 1) (bcells init vi ++ [.bool x.ex, vl])) :
    w.cell? ⟨go, init.length * 2, none⟩ = some (.bool x.ex) ∧ w.cell? ⟨go, init.length * 2 + 1, none⟩ = some vl := by
  have hlen2 := bcells_length init vi h2
  refine ⟨?_, ?_⟩
  · rw [h3.cellAt _ (by omega), List.getElem?_append_right (by omega), hlen2, Nat.sub_self]; rfl
  · rw [h3.cellAt _ (by omega), List.getElem?_append_right (by omega), hlen2, show init.length * 2 + 1 - init.length * 2 = 1 by omega]; rfl

set_option maxRecDepth 100000 in
set_option maxHeartbeats 4000000 in
theorem without_any (v : Value) (p : List PBlock) (b t : Nat) (S : Nat → Bool) (w : World) (h : BlocksAt w v p) (hS : SetAt w b t S) (hpl : p.length ≤ 65536)
    (hp : ∀ x ∈ p, x.vars ≠ [] ∧ x.vars.length ≤ 65536 ∧ ∀ y ∈ x.vars, 0 ≤ y ∧ y ≤ 65536) :
    Calls Try.prog 60 #[v, .pointer (some ⟨b, 0, none⟩)] w fun e w' => Below w.heap.size w w' ∧ ∃ vo, e = .returned vo ∧ OutAt w' w.heap.size vo (withoutP S p) := by
  obtain ⟨A, c, rfl, hlc, hcm⟩ := h.form
  go_enter Try.func60, Try.ntmps60
  obtain ⟨w0, hw0, hc0w, hf0w, hz0, hB0, hrow0⟩ := new_block w #[.pointer (some ⟨b, 0, none⟩)] 104
  have hcB : w0.cell? ⟨w.heap.size, 0, none⟩ = some (.pointer (some ⟨b, 0, none⟩)) := hc0w 0 _ rfl
  have hS0 := hS.below hB0
  have h0 := h.keep (keeps_below hB0)
  have hHP := hid hp
  go_wp2_with fail
  go_loopg [4, 7, 8, 11] p.length (fun gg s4 _ _ s11 wr => ∃ (k : Nat) (out : List PBlock), k ≤ p.length ∧ p.length - k ≤ gg ∧ s11 = .int .i64 k ∧ Below w.heap.size w wr ∧ Below w0.heap.size w0 wr ∧ OutAt wr (w.heap.size + 1) s4 out ∧
    out.length ≤ k ∧ OutB k out ∧ Rem (withoutP S p) ((p.drop k).foldl (gstep S) out))
  case atStart => exact ⟨0, [], Nat.zero_le _, by omega, rfl, hB0, Below.refl _ _, .inl ⟨rfl, rfl⟩, Nat.le_refl _, OutB.nil 0, ⟨rfl⟩⟩
  case round =>
    obtain ⟨k, out, hk, hg, rfl, hB, hB2, hO, hok, hob, HA⟩ := hrel
    by_cases hlt : k < p.length
    · obtain ⟨x, hx, hmem, hd⟩ := nth hlt
      obtain ⟨bp, off, vx, eA, hc0, hc1, hi⟩ := (h0.keep (keeps_below hB2)).at_ k x hx
      subst eA
      obtain ⟨Ax, cx, rfl, hlx, hcx⟩ := hi.form
      have hltz : (k : Int) < (p.length : Int) := by omega
      obtain ⟨w1, hw1, hc1w, -, hz1, hB1, hrow1⟩ := new_block wr #[.bool x.ex, .slice Ax x.vars.length cx] 80
      have hx0 : w1.cell? ⟨wr.heap.size, 0, none⟩ = some (.bool x.ex) := hc1w 0 _ rfl
      have hx1 : w1.cell? ⟨wr.heap.size, 1, none⟩ = some (.slice Ax x.vars.length cx) := hc1w 1 _ rfl
      obtain ⟨hp1, hp2, hp3⟩ := hHP.out x hmem
      have C := clone_any _ x.vars w1 (hi.keep (keeps_below hB1)) (List.length_pos_iff.2 hp1) (by omega)
      have HD := hid hd
      clear hd hx hc1w
      go_wp2_with (go_at_call 93; refine C.mono ?_; rintro e w2 ⟨hB2', g, cap, rfl, hO2⟩)
      have hgl := (hO2.lt g rfl).2
      have hgl1 := (hO2.lt g rfl).1
      have hB02 : Below w0.heap.size w0 w2 := below_then (below_then hB2 hB2.size hB1) (by have := hB2.size; omega) hB2'
      have hS2 := hS0.below hB02
      have hcB2 := keeps_below hB02 _ _ hcB
      have hlt0 := hS.lt
      have C := deleteFunc_any (fun v => S v.toNat) 94 #[] #[.pointer (some ⟨w.heap.size, 0, none⟩)] (enters_of Try.func94 (by kernel_rfl) rfl) w1.heap.size g x.vars.length cap x.vars w2 hO2 rfl (fun y hy => by have := hp3 y hy; unfold I64; omega)
        (fun W => W.cell? ⟨w.heap.size, 0, none⟩ = some (.pointer (some ⟨b, 0, none⟩)) ∧ SetAt W b t S) ⟨hcB2, hS2⟩
        (fun W W' hI hG => ⟨hG.cell hI.1 (by intro e; injection e with e; have e' : w.heap.size = g := e; have := hB2.size; omega), hI.2.kept hG (by intro e; injection e with e; have := hB2.size; omega)⟩)
        (fun y W hy hI => (gone94 w.heap.size b t S y W hI.2 hI.1 (hp3 y hy).1 (hp3 y hy).2).mono (fun e W' he => ⟨he.1, by rw [he.2]; exact Below.refl _ _⟩))
      go_wp2_with (go_at_call 92; refine C.mono ?_; rintro e w3 ⟨hG3, m, rfl, hm, hO3⟩; have hm' := hid hm; clear hm)
      have HM : Hid (m = (keepV S x.vars).length) := hm'
      have hO3' : w3.ownsRow w1.heap.size 3 1 (.slice (some ⟨g, 0, none⟩) m cap) m (nums (keepV S x.vars)) := hO3
      have hBr : Below wr.heap.size wr w3 := (below_then hB1 (by omega) hB2').grown hG3 (by have := hB2'.size; omega) (fun q e => by injection e with e; omega)
      have hB03 : Below w0.heap.size w0 w3 := below_then hB2 hB2.size hBr
      have hBw3 : Below w.heap.size w w3 := below_then hB hB.size hBr
      have hx0' : w3.cell? ⟨wr.heap.size, 0, none⟩ = some (.bool x.ex) := hG3.cell (keeps_below hB2' _ _ hx0) (by intro e; injection e with e; have e' : wr.heap.size = g := e; omega)
      have hOw := hO.below hBr
      have hml : m ≤ 65536 := by have := keepV_length S x.vars; have := HM.out; omega
      have hstep : Rem (withoutP S p) ((p.drop (k + 1)).foldl (gstep S) (gstep S out x)) := ⟨by rw [HA.out, HD.out]; rfl⟩
      have HO := hid hO
      clear hO3 hm' hB2' hO2 hx0 hx1 hrow1 hG3 C hc0 hc1 hi HA hO
      obtain ⟨Ao, co, hvo, hol⟩ := hOw.form
      subst hvo
      have same : ∀ W, Below wr.heap.size wr W → (∀ y, out.getLast? = some y → y.ex ≠ x.ex) → m = 0 → OutAt W (w.heap.size + 1) (.slice Ao out.length co) (gstep S out x) ∧ (gstep S out x).length ≤ k + 1 ∧
          OutB (k + 1) (gstep S out x) := fun W hW hl h0 => by
        have e : gstep S out x = out := by rw [gstep_push hl, if_pos (List.eq_nil_of_length_eq_zero (by rw [← HM.out]; exact h0))]
        rw [e]
        exact ⟨HO.out.below hW, by omega, hob.up⟩
      have push : ∀ W w4 g2 cap2, Below wr.heap.size wr W → W.ownsRow (w.heap.size + 1) 3 1 (.slice (some ⟨g, 0, none⟩) m cap) m (nums (keepV S x.vars)) → (∀ y, out.getLast? = some y → y.ex ≠ x.ex) → m ≠ 0 →
          (∃ xs, W.ownsRow (w.heap.size + 1) 80 2 (.slice Ao out.length co) out.length xs ∧ w4.ownsRow (w.heap.size + 1) 80 2 (.slice (some ⟨g2, 0, none⟩) (out.length + 1) cap2) (out.length + 1) (xs ++ [.bool x.ex, .slice (some ⟨g, 0, none⟩) m cap])) →
          W.grownBy w4 (Value.slice Ao out.length co).ownBlock → ((Value.slice Ao out.length co).ownBlock = some g2 ∨ W.heap.size ≤ g2) → OutAt w4 (w.heap.size + 1) (.slice (some ⟨g2, 0, none⟩) (out.length + 1) cap2) (gstep S out x) ∧ (gstep S out x).length ≤ k + 1 ∧
          OutB (k + 1) (gstep S out x) := fun W w4 g2 cap2 hW hl hlast h0 hrow hG hg2 => by
        have e : gstep S out x = out ++ [⟨x.ex, keepV S x.vars⟩] := by rw [gstep_push hlast, if_neg (fun e => h0 (by rw [HM.out, e]; rfl))]
        rw [e]
        obtain ⟨xs, hr1, hr2⟩ := hrow
        refine ⟨HO.out.push (x2 := ⟨x.ex, keepV S x.vars⟩) (fun z hz y hy => by have := (hob z hz).2 y hy; unfold I64; omega) hW (by rw [← HM.out]; exact hl) (fun q e => by injection e with e; have e' : g = q := e; omega) (fun ys hy => by rw [own_unique hy hr1]; exact hr2) hG (fun q e => ?_), by simp; omega, hob.push (by have := keepV_length S x.vars; omega) (fun y hy => hp3 y (keepV_mem hy))⟩
        · injection e with e
          have e' : g2 = q := e
          rw [← e']; exact hg2
      have SAME := hid same
      have PUSH := hid push
      have hO3b := own_lower hO3' (show w.heap.size + 1 ≤ w1.heap.size by have := hB2.size; omega)
      clear same push
      obtain ⟨xs, hxs⟩ := hOw.row
      by_cases hz0 : out.length = 0
      · have hlast : ∀ y, out.getLast? = some y → y.ex ≠ x.ex := fun y hy => by rw [List.eq_nil_of_length_eq_zero hz0] at hy; cases hy
        have hz : decide (0 < out.length) = false := by rw [hz0]; rfl
        have HL := hid hlast
        have HOW := hid hOw
        clear hlast hOw HO hO3' hob hz0
        go_wp2_with fail
        go_simp
        go_wp2_with fail
        go_quiet (fail)
        clear hz
        by_cases hm0 : m = 0
        · have hz2 : ¬ (0 : Int) < (m : Int) := by omega
          have HM0 := hid hm0
          clear hm0
          go_wp2
          have R := SAME.out (w3.drewN nq) (below_drewN hBr _) HL.out HM0.out
          go_roundg (p.length - (k + 1))
          case measure => omega
          case rel => exact ⟨k + 1, _, by omega, by omega, by go_num, below_drewN hBw3 _, below_drewN hB03 _, R.1, R.2.1, R.2.2, hstep⟩
        · have hz2 : (0 : Int) < (m : Int) := by omega
          have HM0 := hid hm0
          clear hm0
          obtain ⟨W, hW⟩ : ∃ W, w3.drewN nq = W := ⟨_, rfl⟩
          have hBd : Below w3.heap.size w3 W := by rw [← hW]; exact below_drewN (Below.refl _ _) _
          rw [hW]
          clear hW
          have hBrW := below_then hBr hBr.size hBd
          have hx0d := keeps_below hBd _ _ hx0'
          have hxsd := hxs.kept (grown_of_below hBd none) (by cases (Value.slice Ao out.length co).ownBlock <;> simp)
          have hlW := hO3b.kept (grown_of_below hBd none) (by simp [Value.ownBlock])
          have hbs : w.heap.size + 1 ≤ W.heap.size := by have := hBd.size; have := hBr.size; have := hB2.size; omega
          have hb32 : (out.length + 1) * 32 ≤ 140737488355328 := by omega
          clear hx0' hxs hO3b
          go_wp2_with (at_builtin; refine append_one (w.heap.size + 1) rfl _ _ 22 80 (.agg #[.bool false, .slice none 0 0]) 2 32 rfl Try.underlying22 info80 rfl (by decide) (by decide) (.slice Ao out.length co) out.length xs #[.bool x.ex, .slice (some ⟨g, 0, none⟩) m cap] rfl rfl rfl (by intro u hu; simp at hu; rcases hu with rfl | rfl <;> rfl) hxsd hbs hb32 ?_; intro g2 cap2 w4 hO4 hG4 hg4 hbg hlt4)
          have R := PUSH.out W w4 g2 cap2 hBrW hlW HL.out HM0.out ⟨xs, hxsd, hO4⟩ hG4 hg4
          have hoB : ∀ q, (Value.slice Ao out.length co).ownBlock = some q → w.heap.size + 1 ≤ q := fun q e => (hxsd.lt q e).1
          have hBw4 : Below w.heap.size w w4 := (below_then hBw3 hBw3.size hBd).grown hG4 (by omega) (fun q e => by have := hoB q e; omega)
          have hB04 : Below w0.heap.size w0 w4 := (below_then hB03 hB03.size hBd).grown hG4 (by omega) (fun q e => by have := hoB q e; omega)
          go_roundg (p.length - (k + 1))
          case measure => omega
          case rel => exact ⟨k + 1, _, by omega, by omega, by go_num, hBw4, hB04, R.1, R.2.1, R.2.2, hstep⟩
      · have hO' := hOw
        rcases hO' with ⟨e1, -⟩ | ⟨init, y, vi, vl, e1, h2, h3, h4, h4b, h5⟩
        · exact absurd (by rw [e1]; rfl) hz0
        · have hlen : out.length = init.length + 1 := by rw [e1]; simp
          have hlasty : out.getLast? = some y := by rw [e1]; simp
          obtain ⟨go, co2, eo, hgo1, hgo2, hgo3⟩ := own_form h3 (by omega)
          injection eo with eo1 eo2 eo3
          subst eo1
          subst eo3
          obtain ⟨ni, hni⟩ : ∃ ni, init.length = ni := ⟨_, rfl⟩
          rw [hlen] at h3
          obtain ⟨hl0, hl1⟩ := last_cells h2 h3
          have hl2 := fun j => h3.frozenAt j
          rw [hni] at hl0 hl1 hlen
          rw [hlen] at PUSH SAME hok hol hxs ⊢
          have HN := hid hni
          have HS := hid hlasty
          have HL := hid hlen
          have HE := hid e1
          have H3 := hid h3
          have H5 := hid h5
          have H2 := hid h2
          have HB := hid hob
          have H4B : Hid (∀ q, vl.ownBlock ≠ some q ∨ q ≠ go) := hid fun q => by
            by_cases hq : vl.ownBlock = some q
            · right; intro e; exact h4b q hq (by rw [e]; rfl)
            · exact .inl hq
          have hw1 : IntKind.i64.wrap (ni : Int) = ni := IntWalk.i64_in _ (by omega)
          have hm0 : 0 ≤ (ni : Int) := by omega
          clear hni hlasty hlen e1 h3 h5 h2 hO3' hob hOw HO hz0
          by_cases hex : y.ex = x.ex
          · have hexb : (y.ex == x.ex) = true := by rw [hex]; simp
            have HX := hid hex
            clear hex
            go_simp
            go_wp2_with fail
            go_quiet (fail)
            obtain ⟨W, hW⟩ : ∃ W, w3.drewN nq = W := ⟨_, rfl⟩
            have hBd : Below w3.heap.size w3 W := by rw [← hW]; exact below_drewN (Below.refl _ _) _
            rw [hW]
            clear hW
            have hl0d := keeps_below hBd _ _ hl0
            have hl1d := keeps_below hBd _ _ hl1
            have hBrW := below_then hBr hBr.size hBd
            have h4d := h4.kept (grown_of_below hBd none) (by cases vl.ownBlock <;> simp)
            have h3d := H3.out.kept (grown_of_below hBd none) (by simp [Value.ownBlock])
            have hl2d := fun j => h3d.frozenAt j
            have H3d := hid h3d
            have hlW := hO3b.kept (grown_of_below hBd none) (by simp [Value.ownBlock])
            have hbs : w.heap.size + 1 ≤ W.heap.size := by have := hBd.size; have := hBr.size; have := hB2.size; omega
            have hyb := HB.out y (by rw [HE.out]; simp)
            have hb8 : (y.vars.length + m) * 8 ≤ 140737488355328 := by
              have h1 : y.vars.length ≤ 65536 * 65536 := Nat.le_trans hyb.1 (Nat.mul_le_mul_right _ (by omega))
              omega
            clear hx0' hxs hO3b hl0 hl1 hl2 h4 h3d hyb
            go_wp2_with (at_builtin; refine append_ints (w.heap.size + 1) (w.heap.size + 1) rfl _ _ rfl vl y.vars.length y.vars g m cap (keepV S x.vars) rfl rfl h4d hlW hbs hb8 ?_; intro vl1 w4 hO4 hG4 hb4; obtain ⟨A1, c1, rfl⟩ := own_shape hO4; have hl1e : w4.cell? ⟨go, ni * 2 + 1, none⟩ = some vl := hG4.cell hl1d (by intro e; rcases H4B.out go with h | h; exact h e.symm; exact h rfl); have hl2e := fun j => (H3d.out.kept hG4 (by right; intro e; rcases H4B.out go with h | h; exact h e.symm; exact h rfl)).frozenAt j)
            have hcb : ∀ b, (Value.slice A1 (y.vars.length + m) c1).ownBlock = some b → vl.ownBlock = some b ∨ W.heap.size ≤ b := fun q e => by
              rcases hb4 with h | h
              · exact .inl (h ▸ e)
              · right; rw [h] at e; injection e with e; omega
            have hO4' : w4.ownsRow (w.heap.size + 1) 3 1 (.slice A1 (y.vars.length + m) c1) (y.vars ++ keepV S x.vars).length (nums (y.vars ++ keepV S x.vars)) := by
              rw [List.length_append, ← HM.out]; exact hO4
            have hvb : ∀ q, vl.ownBlock = some q → w.heap.size + 1 ≤ q := fun q e => (h4d.lt q e).1
            have R := OutAt.ext H2.out H3d.out h4d (fun q hq e => by rcases H4B.out q with h | h; exact h hq; exact h e) (fun i z v hz hv => by
              obtain ⟨k1, k2⟩ := H5.out i z v hz hv
              exact ⟨k1.keep (keeps_below hBd), fun q hq => ⟨(k2 q hq).1, (fun e => (k2 q hq).2.1 (by rw [e]; rfl)), Nat.lt_of_lt_of_le (k2 q hq).2.2.1 hBd.size, (k2 q hq).2.2.2⟩⟩) hO4' hG4 hcb
            rw [HN.out] at R
            have hBw4 : Below w.heap.size w w4 := (below_then hBw3 hBw3.size hBd).grown hG4 (by omega) (fun q e => by have := hvb q e; omega)
            have hB04 : Below w0.heap.size w0 w4 := (below_then hB03 hB03.size hBd).grown hG4 (by omega) (fun q e => by have := hvb q e; omega)
            have hBw5 := hBw4.setCell (p := ⟨go, ni * 2 + 1, none⟩) (show w.heap.size ≤ go by omega) (.slice A1 (y.vars.length + m) c1)
            have hB05 := hB04.setCell (p := ⟨go, ni * 2 + 1, none⟩) (show w0.heap.size ≤ go by omega) (.slice A1 (y.vars.length + m) c1)
            have hE2 : gstep S out x = init ++ [⟨y.ex, y.vars ++ keepV S x.vars⟩] := by rw [HE.out, gstep_same HX.out]
            go_roundg (p.length - (k + 1))
            case measure => omega
            case rel =>
              refine ⟨k + 1, gstep S out x, by omega, by omega, by go_num, hBw5, hB05, ?_, ?_, ?_, hstep⟩
              · rw [hE2]; exact R
              · rw [hE2, List.length_append, HN.out]; simp; omega
              · rw [hE2]; have hb := HB.out; rw [HE.out] at hb; exact hb.ext (by have := HM.out; omega) (fun q hq => hp3 q (keepV_mem hq))
          · have hexb : (y.ex == x.ex) = false := by rw [beq_eq_false_iff_ne]; exact hex
            have hlast : ∀ z, out.getLast? = some z → z.ex ≠ x.ex := fun z hz => by rw [HS.out] at hz; injection hz with hz; rw [← hz]; exact hex
            have HLA := hid hlast
            clear hex hlast
            go_simp
            go_wp2_with fail
            go_quiet (fail)
            clear hw1 hm0 hexb
            obtain ⟨W, hW⟩ : ∃ W, w3.drewN nq = W := ⟨_, rfl⟩
            have hBd : Below w3.heap.size w3 W := by rw [← hW]; exact below_drewN (Below.refl _ _) _
            rw [hW]
            clear hW
            have hBrW := below_then hBr hBr.size hBd
            have hx0d := keeps_below hBd _ _ hx0'
            have hxsd := hxs.kept (grown_of_below hBd none) (by simp [Value.ownBlock])
            have hlW := hO3b.kept (grown_of_below hBd none) (by simp [Value.ownBlock])
            have hbs : w.heap.size + 1 ≤ W.heap.size := by have := hBd.size; have := hBr.size; have := hB2.size; omega
            have hb32 : ((ni + 1) + 1) * 32 ≤ 140737488355328 := by omega
            by_cases hm0 : m = 0
            · have hz2 : ¬ (0 : Int) < (m : Int) := by omega
              have HM0 := hid hm0
              clear hm0 hx0' hxs hO3b hl0 hl1 hl2 h4
              go_wp2
              have R := SAME.out W hBrW HLA.out HM0.out
              go_roundg (p.length - (k + 1))
              case measure => omega
              case rel => exact ⟨k + 1, _, by omega, by omega, by go_num, below_then hBw3 hBw3.size hBd, below_then hB03 hB03.size hBd, R.1, R.2.1, R.2.2, hstep⟩
            · have hz2 : (0 : Int) < (m : Int) := by omega
              have HM0 := hid hm0
              clear hm0 hx0' hxs hO3b hl0 hl1 hl2 h4
              go_wp2_with (at_builtin; refine append_one (w.heap.size + 1) rfl _ _ 22 80 (.agg #[.bool false, .slice none 0 0]) 2 32 rfl Try.underlying22 info80 rfl (by decide) (by decide) (.slice (some ⟨go, 0, none⟩) (ni + 1) co) (ni + 1) xs #[.bool x.ex, .slice (some ⟨g, 0, none⟩) m cap] rfl rfl rfl (by intro u hu; simp at hu; rcases hu with rfl | rfl <;> rfl) hxsd hbs hb32 ?_; intro g2 cap2 w4 hO4 hG4 hg4 hbg hlt4)
              have R := PUSH.out W w4 g2 cap2 hBrW hlW HLA.out HM0.out ⟨xs, hxsd, hO4⟩ hG4 hg4
              have hoB : ∀ q, (Value.slice (some ⟨go, 0, none⟩) (ni + 1) co).ownBlock = some q → w.heap.size + 1 ≤ q := fun q e => (hxsd.lt q e).1
              have hBw4 : Below w.heap.size w w4 := (below_then hBw3 hBw3.size hBd).grown hG4 (by omega) (fun q e => by have := hoB q e; omega)
              have hB04 : Below w0.heap.size w0 w4 := (below_then hB03 hB03.size hBd).grown hG4 (by omega) (fun q e => by have := hoB q e; omega)
              go_roundg (p.length - (k + 1))
              case measure => omega
              case rel => exact ⟨k + 1, _, by omega, by omega, by go_num, hBw4, hB04, R.1, R.2.1, R.2.2, hstep⟩
    · have hltz : ¬ (k : Int) < (p.length : Int) := by omega
      have hR : out = withoutP S p := by rw [HA.out, List.drop_eq_nil_of_le (by omega)]; rfl
      have HR := hid hR
      obtain ⟨Ao, co, rfl, hol⟩ := hO.form
      clear hR
      go_wp2_with fail
      go_ret
      refine ⟨hB, _, rfl, ?_⟩
      rw [← HR.out]
      exact hO.lower (by omega)
/-- Where from base on nothing turns the result stays. -/
theorem OutAt.keepB {w w' : World} {base : Nat} {vo : Value} {out : List PBlock} (h : OutAt w base vo out) (hs : w.heap.size ≤ w'.heap.size) (hk : ∀ k, base ≤ k → k < w.heap.size → w'.heap[k]? = w.heap[k]?) : OutAt w' base vo out := by
  have row : ∀ {e size n : Nat} {v : Value} {xs : List Value}, w.ownsRow base e size v n xs → w'.ownsRow base e size v n xs := fun hr => by
    rcases hr with ⟨k1, k2 | ⟨g, cap, cur, k2, k3, k4, k5⟩⟩
    · exact ⟨k1, .inl k2⟩
    · exact ⟨k1, .inr ⟨g, cap, cur, k2, k3, (hk g k3 (Array.getElem?_eq_some_iff.1 k4).1).trans k4, k5⟩⟩
  rcases h with h | ⟨init, x, vi, vl, h1, h2, h3, h4, h5, h6⟩
  · exact .inl h
  · refine .inr ⟨init, x, vi, vl, h1, h2, row h3, row h4, h5, fun i y v hy hv => ?_⟩
    obtain ⟨k1, k2⟩ := h6 i y v hy hv
    refine ⟨?_, fun b hb => ⟨(k2 b hb).1, (k2 b hb).2.1, Nat.lt_of_lt_of_le (k2 b hb).2.2.1 hs, (k2 b hb).2.2.2⟩⟩
    obtain ⟨A, c, e, a1, a2, a3⟩ := k1
    refine ⟨A, c, e, a1, a2, fun hp => ?_⟩
    obtain ⟨b, off, rfl, a4⟩ := a3 hp
    have hb := k2 b (by rw [e]; rfl)
    exact ⟨b, off, rfl, fun j x hx => ⟨(World.cell?_of_block (hk b hb.2.2.2 hb.2.2.1)).trans (a4 j x hx).1, (a4 j x hx).2⟩⟩
end Go.Proofs.Ytnlobmepajakcaa
