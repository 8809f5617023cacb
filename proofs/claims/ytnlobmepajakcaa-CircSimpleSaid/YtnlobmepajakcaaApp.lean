/- append of a list that reads as data, empty or not, to a row of one's own; the condition: the row's bytes stay below 2^47. -/
import Derived.Test.YtnlobmepajakcaaRefB
import Derived.Deep.AppendLies
set_option linter.unusedVariables false
set_option linter.unusedSimpArgs false
namespace Go.Proofs.Ytnlobmepajakcaa
open Go.RowKit Go.Shelf

theorem run_app_none (W : World) (ty : TypeId) (A : Option Addr) (n cap k : Nat) (h : n ≤ cap) : (Builtin.append_ #[26, 26] ty #[.slice A n cap, .slice none 0 k]).run Try.prog W = .ok (.slice A n cap) W := by
  obtain ⟨i0, hi, hzz⟩ := Option.map_eq_some_iff.1 info3
  simp only [Prod.mk.injEq] at hzz
  obtain ⟨hz0, hz1, hz2⟩ := hzz
  cases A <;> simp [Builtin.append_, run_underlying Try.underlying26, sizeOf, typeInfo, hi, Builtin.lenOf, Builtin.firstCells, loadCells, loadCellsFrom, storeCells, h]
theorem run_app (W : World) (base : Nat) (ty : TypeId) (v : Value) (n : Nat) (xs : List Int) (u : Value) (ys : List Int) (HO : W.ownsRow base 3 1 v n (nums xs)) (HY : IntsAt W u ys) (hbase : base ≤ W.heap.size) (hl : (n + ys.length) * 8 ≤ 140737488355328) :
    ∃ A cap w1, (Builtin.append_ #[26, 26] ty #[v, u]).run Try.prog W = .ok (.slice A (n + ys.length) cap) w1 ∧ w1.ownsRow base 3 1 (.slice A (n + ys.length) cap) (n + ys.length) (nums (xs ++ ys)) ∧ W.grownBy w1 v.ownBlock ∧
      (∀ g, (Value.slice A (n + ys.length) cap).ownBlock = some g → v.ownBlock = some g ∨ g = W.heap.size) := by
  obtain ⟨i0, hi, hzz⟩ := Option.map_eq_some_iff.1 info3
  simp only [Prod.mk.injEq] at hzz
  obtain ⟨hz0, hz1, hz2⟩ := hzz
  obtain ⟨A, c, rfl, hlc, hcm⟩ := HY.form
  cases A with
  | none =>
    have hys : ys.length = 0 := by
      by_cases h : 0 < ys.length
      · obtain ⟨y, hy, -, -⟩ := nth h
        obtain ⟨_, _, e, _⟩ := HY.at_ 0 y hy
        cases e
      · omega
    have : ys = [] := List.eq_nil_of_length_eq_zero hys
    subst this
    obtain ⟨A, cap, rfl, hnc⟩ : ∃ A cap, v = .slice A n cap ∧ n ≤ cap := by
      rcases HO.2 with ⟨rfl, rfl⟩ | ⟨g, cap, cur, rfl, _, _, h, _⟩
      · exact ⟨_, _, rfl, Nat.le_refl _⟩
      · exact ⟨_, _, rfl, h⟩
    exact ⟨A, cap, W, run_app_none W ty A n cap c hnc, by simpa using HO, World.grownBy.refl _ _, fun g hg => .inl hg⟩
  | some ad =>
    obtain ⟨v', w', hr, h2, h3, _, h5⟩ := run_append_own_at (P := Try.prog) W base 26 ty 3 i0 (.int .i64 0) 1 8 Try.underlying26 hi hz0 hz1 hz2 rfl (by decide) v n (nums xs) HO ad ys.length c (nums ys) (by rw [nums_length, Nat.mul_one]) (fun j u hj => by
      unfold nums at hj
      rw [List.getElem?_map] at hj
      obtain ⟨y, hy, rfl⟩ := Option.map_eq_some_iff.1 hj
      obtain ⟨b', off', e, hc, -⟩ := HY.at_ j y hy
      cases e
      have hadd : (⟨b', off', none⟩ : Addr).add j = ⟨b', off' + j, none⟩ := by unfold Addr.add; split <;> simp_all
      rw [hadd]; exact hc) (fun u hu => by obtain ⟨z, _, rfl⟩ := List.mem_map.1 hu; rfl) (by simp only [maxLen]; omega) hl hbase
    obtain ⟨A, cap, rfl⟩ := own_shape h2
    have e : nums (xs ++ ys) = nums xs ++ nums ys := List.map_append
    refine ⟨A, cap, w', hr, by rw [e]; exact h2, h3, fun g hg => ?_⟩
    rcases h5 with h5 | h5
    · exact .inl (by rw [← h5]; exact hg)
    · right
      rw [h5] at hg
      exact (Option.some.inj hg).symm
section
variable {ops : Array Oper} {rest : List Oper} {o : Oper} {a : Act} {Q : Exit → Act → World → Prop} {K : Act → World → Prop}
theorem wp_app {W : World} (base : Nat) (s x : Operand) (ho : o.op = .call { callee := .builtin .append, args := #[s, x], argTypes := #[26, 26] })
    (v : Value) (n : Nat) (xs : List Int) (u : Value) (ys : List Int) (m : Nat) (hs : a.eval s = v) (hx : a.eval x = u) (HO : W.ownsRow base 3 1 v n (nums xs)) (HY : IntsAt W u ys) (hm : n + ys.length = m) (hbase : base ≤ W.heap.size) (hl : m * 8 ≤ 140737488355328)
    (h : ∀ A cap w1, w1.ownsRow base 3 1 (.slice A m cap) m (nums (xs ++ ys)) → W.grownBy w1 v.ownBlock → (∀ g, (Value.slice A m cap).ownBlock = some g → v.ownBlock = some g ∨ g = W.heap.size) → K (a.put o.dst (.slice A m cap)) w1) : o.wp Try.prog a W K Q := by
  subst hm
  obtain ⟨A, cap, w1, hr, h2, h3, h4⟩ := run_app W base o.type v n xs u ys HO HY hbase hl
  unfold Oper.wp execOp
  simp only [ho, resolve, invoke, builtin, Sem.run_bind, Sem.run_pure, Result.andThen_ok, List.map_toArray, List.map_cons, List.map_nil, hs, hx, hr]
  exact h A cap w1 h2 h3 h4
theorem append_list {W : World} (base : Nat) (hgd : o.guard = none) (s x : Operand) (ho : o.op = .call { callee := .builtin .append, args := #[s, x], argTypes := #[26, 26] })
    (v : Value) (n : Nat) (xs : List Int) (u : Value) (ys : List Int) (m : Nat) (hs : a.eval s = v) (hx : a.eval x = u) (HO : W.ownsRow base 3 1 v n (nums xs)) (HY : IntsAt W u ys) (hm : n + ys.length = m) (hbase : base ≤ W.heap.size) (hl : m * 8 ≤ 140737488355328)
    (h : ∀ A cap w1, w1.ownsRow base 3 1 (.slice A m cap) m (nums (xs ++ ys)) → W.grownBy w1 v.ownBlock → (∀ g, (Value.slice A m cap).ownBlock = some g → v.ownBlock = some g ∨ g = W.heap.size) → wpList Try.prog ops Q rest (a.put o.dst (.slice A m cap)) w1) : wpList Try.prog ops Q (o :: rest) a W :=
  wpList_plain hgd fun _ hK => wp_app base s x ho v n xs u ys m hs hx HO HY hm hbase hl fun A cap w1 h2 h3 h4 => hK _ _ (h A cap w1 h2 h3 h4)
theorem step_app {W : World} {E : Prop} (base : Nat) (hgd : o.guard = none) (s x : Operand) (ho : o.op = .call { callee := .builtin .append, args := #[s, x], argTypes := #[26, 26] })
    (v : Value) (n : Nat) (xs : List Int) (u : Value) (ys : List Int) (m : Nat) (hs : a.eval s = v) (hx : a.eval x = u) (HO : W.ownsRow base 3 1 v n (nums xs)) (HY : IntsAt W u ys) (hm : n + ys.length = m) (hbase : base ≤ W.heap.size) (hl : m * 8 ≤ 140737488355328)
    (h : ∀ A cap w1, w1.ownsRow base 3 1 (.slice A m cap) m (nums (xs ++ ys)) → W.grownBy w1 v.ownBlock → (∀ g, (Value.slice A m cap).ownBlock = some g → v.ownBlock = some g ∨ g = W.heap.size) → K (a.put o.dst (.slice A m cap)) w1) :
    if Region.wanted o (yielded ops a.tmps) = true then Oper.wp Try.prog o a W K Q else E := by
  have hw : Region.wanted o (yielded ops a.tmps) = true := by simp [Region.wanted, hgd]
  rw [if_pos hw]
  exact wp_app base s x ho v n xs u ys m hs hx HO HY hm hbase hl h
end
theorem own_empty (W : World) (base : Nat) (hb : base ≤ W.heap.size) : (W.alloc (.cells #[] 3)).ownsRow base 3 1 (.slice (some ⟨W.heap.size, 0, none⟩) 0 0) 0 (nums []) :=
  ⟨rfl, .inr ⟨_, 0, #[], rfl, hb, heap_alloc_new W _, Nat.le_refl _, by simp [maxLen], rfl, rfl⟩⟩
theorem ints_of_own2 {w : World} {base n : Nat} {v : Value} {xs : List Int} (h : w.ownsRow base 3 1 v n (nums xs)) (hx : ∀ x ∈ xs, I64 x) : IntsAt w v xs := by
  refine ints_of_own h hx ?_
  rcases h.2 with ⟨_, rfl⟩ | ⟨g, cap, cur, rfl, _, _, h1, h2, _⟩
  · omega
  · simp only [maxLen] at h2; omega
theorem IntsAt.i64 {w : World} {v : Value} {xs : List Int} (h : IntsAt w v xs) : ∀ x ∈ xs, I64 x := fun x hx => by
  obtain ⟨A, c, rfl, _, _⟩ := h.form
  obtain ⟨k, hk⟩ := List.getElem?_of_mem hx
  obtain ⟨_, _, _, _, h64⟩ := h.at_ k x hk
  exact h64
/-- A part of a list that reads as data. -/
theorem ints_take {w : World} {A : Option Addr} {n c : Nat} {xs : List Int} (h : IntsAt w (.slice A n c) xs) {i : Nat} (hi : i ≤ n) : IntsAt w (.slice A i c) (xs.take i) := by
  obtain ⟨A', c', e, h1, h2, h3⟩ := h
  cases e
  have hl : (xs.take i).length = i := by simp; omega
  refine ⟨A, c, by rw [hl], by omega, h2, fun hp => ?_⟩
  rw [hl] at hp
  obtain ⟨b, off, e2, h4⟩ := h3 (by omega)
  exact ⟨b, off, e2, fun j x hx => h4 j x (by
    rw [List.getElem?_take] at hx
    split at hx
    · exact hx
    · cases hx)⟩
theorem ints_drop {w : World} {b off n c : Nat} {xs : List Int} (h : IntsAt w (.slice (some ⟨b, off, none⟩) n c) xs) {i : Nat} (hi : i ≤ n) : IntsAt w (.slice (some ⟨b, off + i, none⟩) (n - i) (c - i)) (xs.drop i) := by
  obtain ⟨A', c', e, h1, h2, h3⟩ := h
  injection e with e1 e2 e3
  subst e1 e2 e3
  have hl : (xs.drop i).length = xs.length - i := by simp
  refine ⟨_, _, by rw [hl], by rw [hl]; omega, by omega, fun hp => ?_⟩
  rw [hl] at hp
  obtain ⟨b', off', e2, h4⟩ := h3 (by omega)
  cases e2
  refine ⟨b, off + i, rfl, fun j x hx => ?_⟩
  rw [List.getElem?_drop] at hx
  have := h4 (i + j) x hx
  have e : off + (i + j) * 1 = off + i + j * 1 := by omega
  rw [e] at this
  exact this
/-! ### Parts of a slice -/
theorem elem26 : Try.prog.underlying 26 = some (.slice (Try.prog.elem 26)) := by kernel_rfl
theorem size26 (w : World) : (sizeOf (Try.prog.elem 26)).run Try.prog w = .ok 1 w := by
  have h := info3
  obtain ⟨i, hi, hz⟩ := Option.map_eq_some_iff.1 h
  simp only [Prod.mk.injEq] at hz
  have e : Try.prog.elem 26 = 3 := by kernel_rfl
  rw [e]
  simp [sizeOf, typeInfo, Sem.run_bind, hi, go_sem, hz.2.1]
theorem add_zero (a : Addr) : a.add 0 = a := by unfold Addr.add; simp
theorem run_to (A : Option Addr) (n c i : Nat) (hi : i ≤ c) (W : World) : (Instr.slice 26 (.slice A n c) none (some (.int .i64 (i : Int))) none).run Try.prog W = .ok (.slice A i c) W := by
  rw [run_slice_h W 26 A n c elem26 .i64 (i : Int) (by omega) (by omega), size26]
  simp only [Result.andThen, sliced, Int.toNat_natCast, Nat.sub_zero, Nat.zero_mul]
  split
  · rfl
  · cases A with
    | none => rfl
    | some a => simp [add_zero]
theorem slice_from (A : Option Addr) (n c i : Nat) (hi : i ≤ n) : ∃ A', (∀ W, (Instr.slice 26 (.slice A n c) (some (.int .i64 (i : Int))) none none).run Try.prog W = .ok (.slice A' (n - i) (c - i)) W) ∧
    ∀ W xs, IntsAt W (.slice A n c) xs → IntsAt W (.slice A' (n - i) (c - i)) (xs.drop i) := by
  by_cases hc : c = i
  · refine ⟨A, fun W => ?_, fun W xs h => ?_⟩
    · rw [run_slice_l W 26 A n c elem26 .i64 (i : Int) (by omega) (by omega), size26]
      simp only [Result.andThen, sliced, Int.toNat_natCast]
      rw [if_pos hc]
    · obtain ⟨A', c', e, h1, h2, h3⟩ := h
      injection e with e1 e2 e3
      subst e1 e2 e3
      have hl : (xs.drop i).length = xs.length - i := by simp
      refine ⟨_, _, by rw [hl], by rw [hl]; omega, by omega, fun hp => ?_⟩
      rw [hl] at hp
      omega
  · refine ⟨A.map (·.add (i * 1)), fun W => ?_, fun W xs h => ?_⟩
    · rw [run_slice_l W 26 A n c elem26 .i64 (i : Int) (by omega) (by omega), size26]
      simp only [Result.andThen, sliced, Int.toNat_natCast]
      rw [if_neg hc]
    · cases A with
      | none =>
        obtain ⟨A', c', e, h1, h2, h3⟩ := h
        injection e with e1 e2 e3
        subst e1 e2 e3
        have hl : (xs.drop i).length = xs.length - i := by simp
        refine ⟨_, _, by rw [hl], by rw [hl]; omega, by omega, fun hp => ?_⟩
        rw [hl] at hp
        obtain ⟨b, off, e, _⟩ := h3 (by omega)
        cases e
      | some a =>
        by_cases hn : i = n
        · obtain ⟨A', c', e, h1, h2, h3⟩ := h
          injection e with e1 e2 e3
          subst e1 e2 e3
          have hl : (xs.drop i).length = xs.length - i := by simp
          refine ⟨_, _, by rw [hl], by rw [hl]; omega, by omega, fun hp => ?_⟩
          rw [hl] at hp
          omega
        · obtain ⟨b, off, e⟩ : ∃ b off, a = ⟨b, off, none⟩ := by
            obtain ⟨A', c', e, h1, h2, h3⟩ := h
            injection e with e1 e2 e3
            subst e1 e2 e3
            obtain ⟨b, off, e, _⟩ := h3 (by omega)
            injection e with e
            exact ⟨b, off, e⟩
          subst e
          have hadd : (⟨b, off, none⟩ : Addr).add (i * 1) = ⟨b, off + i, none⟩ := by unfold Addr.add; split <;> simp_all
          show IntsAt W (.slice (some ((⟨b, off, none⟩ : Addr).add (i * 1))) (n - i) (c - i)) (xs.drop i)
          rw [hadd]
          exact ints_drop h hi
theorem ints_one {W : World} {g : Nat} {x : Int} {t : TypeId} (h : W.heap[g]? = some (.cells #[.int .i64 x] t (0, 0))) (hx : I64 x) : IntsAt W (.slice (some ⟨g, 0, none⟩) 1 1) [x] := by
  refine ⟨some ⟨g, 0, none⟩, 1, rfl, Nat.le_refl _, by omega, fun _ => ⟨g, 0, rfl, fun j y hj => ?_⟩⟩
  match j, hj with
  | 0, hj =>
    cases hj
    exact ⟨cell_row h rfl, hx⟩
  | j + 1, hj => simp at hj
end Go.Proofs.Ytnlobmepajakcaa
