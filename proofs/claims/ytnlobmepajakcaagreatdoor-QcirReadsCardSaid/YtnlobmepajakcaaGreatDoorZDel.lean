/- What a delete in a row of gates does; no condition. -/
import Derived.Test.YtnlobmepajakcaaGreatDoorZPlain
import Derived.Test.YtnlobmepajakcaaGreatDoorZTools
set_option linter.unusedVariables false
set_option linter.unusedSimpArgs false
namespace Go.Proofs.YtnlobmepajakcaaGreatDoor
open Go.RowKit Go.Shelf

theorem elem23 : Tryz.prog.underlying 38 = some (.slice (Tryz.prog.elem 38)) := by kernel_rfl
theorem size23 (w : World) : (sizeOf (Tryz.prog.elem 38)).run Tryz.prog w = .ok 3 w := by
  have h := info70
  obtain ⟨i, hi, hz⟩ := Option.map_eq_some_iff.1 h
  simp only [Prod.mk.injEq] at hz
  have e : Tryz.prog.elem 38 = 88 := by kernel_rfl
  rw [e]
  simp [sizeOf, typeInfo, Sem.run_bind, hi, go_sem, hz.2.1]
theorem add_plain (g o k : Nat) : (⟨g, o, none⟩ : Addr).add k = ⟨g, o + k, none⟩ := by unfold Addr.add; split <;> simp_all
theorem gcells_append (xs ys : List GT) : gcells (xs ++ ys) = gcells xs ++ gcells ys := by simp [gcells]
theorem gcells_one (u : Value) {ts : List GT} (h : u ∈ gcells ts) : u.oneCell' = true := by
  unfold gcells at h
  obtain ⟨t, _, ht⟩ := List.mem_flatMap.1 h
  simp only [enc3, List.mem_cons, List.not_mem_nil, or_false] at ht
  rcases ht with rfl | rfl | rfl <;> rfl
theorem gcells_take (ts : List GT) (i : Nat) : (gcells ts).take (i * 3) = gcells (ts.take i) := by
  by_cases h : i ≤ ts.length
  · conv => lhs; rw [← List.take_append_drop i ts, gcells_append]
    rw [List.take_append_of_le_length (by rw [gcells_length, List.length_take]; omega), List.take_of_length_le (by rw [gcells_length, List.length_take]; omega)]
  · rw [List.take_of_length_le (by rw [gcells_length]; omega), List.take_of_length_le (by omega)]
theorem gcells_drop (ts : List GT) (i : Nat) : (gcells ts).drop (i * 3) = gcells (ts.drop i) := by
  by_cases h : i ≤ ts.length
  · conv => lhs; rw [← List.take_append_drop i ts, gcells_append]
    rw [List.drop_append_of_le_length (by rw [gcells_length, List.length_take]; omega), List.drop_of_length_le (by rw [gcells_length, List.length_take]; omega)]
    rfl
  · rw [List.drop_of_length_le (by rw [gcells_length]; omega), List.drop_of_length_le (by omega)]; rfl
theorem run_room23 (W : World) (ty : TypeId) (base g n m cap i j : Nat) (ts : List GT) (a : Addr) (c' : Nat) (hO : W.ownsRow base 88 3 (.slice (some ⟨g, 0, none⟩) n cap) n (gcells ts)) (hn : ts.length = n) (hm : n = m + 1) (hj : j = i + 1) (hi : j ≤ n) (ha : j < n → a = ⟨g, j * 3, none⟩) :
    ∃ W', (Builtin.append_ #[38, 38] ty #[.slice (some ⟨g, 0, none⟩) i cap, .slice (some a) (n - j) c']).run Tryz.prog W = .ok (.slice (some ⟨g, 0, none⟩) m cap) W' ∧ W.grownBy W' (some g) ∧
      ∃ cur, W'.heap[g]? = some (.cells cur 88 (0, 0)) ∧ cur.size = cap * 3 ∧ cap ≤ maxLen ∧ n ≤ cap ∧ base ≤ g ∧ cur.toList.take (m * 3) = gcells (ts.eraseIdx i) := by
  obtain ⟨i0, hi0, hzz⟩ := Option.map_eq_some_iff.1 info70
  simp only [Prod.mk.injEq] at hzz
  obtain ⟨hz0, hz1, hz2⟩ := hzz
  obtain ⟨hl, h | ⟨g', cap', cur, e, hb, hh, hcap, hmax, hcs, htk⟩⟩ := hO
  · cases h.1
  cases e
  have hcl : (gcells ts).length = n * 3 := by rw [gcells_length, hn]
  have hnews : ∀ k u, (gcells (ts.drop j))[k]? = some u → W.cell? (a.add k) = some u := by
    intro k u hu
    have hk := (List.getElem?_eq_some_iff.1 hu).1
    rw [gcells_length, List.length_drop] at hk
    rw [ha (by omega), add_plain, cell_of_row _ _ _ _ _ _ hh]
    rw [← gcells_drop, ← htk, List.getElem?_drop, List.getElem?_take] at hu
    rw [if_pos (by omega)] at hu
    rw [← Array.getElem?_toList]; exact hu
  have hr := run_append_room (P := Tryz.prog) W 38 ty 88 i0 Tryz.underlying38 hi0 g i cap cur hh a (n - j) c' (gcells (ts.drop j)) (by rw [gcells_length, List.length_drop, hn, hz1]) hnews (fun u hu => gcells_one u hu) (by omega)
    (by rw [gcells_length, List.length_drop, hz1, hcs]; omega)
  rw [hz1] at hr
  have hw : i + (n - j) = m := by omega
  rw [hw] at hr
  refine ⟨_, hr, ⟨rfl, rfl, rfl, by simp, fun k _ hk => setRow_other W g k _ (fun e => hk (by rw [e]))⟩, _, setRow_heap W g cur _ 88 (0, 0) hh, ?_, hmax, hcap, hb, ?_⟩
  · simp only [List.size_toArray, List.length_append, List.length_take, List.length_drop, Array.length_toList, gcells_length]
    omega
  · have h1 : cur.toList.take (i * 3) = gcells (ts.take i) := by
      rw [← gcells_take, ← htk, List.take_take, Nat.min_eq_left (by omega)]
    rw [h1]
    have h2 : ts.eraseIdx i = ts.take i ++ ts.drop j := by rw [hj]; exact List.eraseIdx_eq_take_drop_succ ts i
    rw [h2, gcells_append]
    have hl2 : (gcells (ts.take i) ++ gcells (ts.drop j)).length = m * 3 := by rw [List.length_append, gcells_length, gcells_length, List.length_take, List.length_drop]; omega
    rw [← hl2]
    exact List.take_left
theorem run_clear23 (W : World) (ty : TypeId) (g m cap : Nat) (cur : Array Value) (c : Nat) (hh : W.heap[g]? = some (.cells cur 88 (0, 0))) (hs : cur.size = cap * 3) (hm : m < cap) :
    ∃ W', (Builtin.clear_ #[38] ty #[.slice (some ⟨g, m * 3, none⟩) 1 c]).run Tryz.prog W = .ok (.tuple #[]) W' ∧ W.grownBy W' (some g) ∧ ∃ cur', W'.heap[g]? = some (.cells cur' 88 (0, 0)) ∧ cur'.size = cap * 3 ∧ cur'.toList.take (m * 3) = cur.toList.take (m * 3) := by
  have hzc : (Builtin.zeroCells (Value.agg #[.int .i64 0, .int .u8 0, .slice none 0 0]).cells 1).toList = [.int .i64 0, .int .u8 0, .slice none 0 0] := by
    unfold Builtin.zeroCells
    simp [Value.cells]
    rfl
  have hst := run_storeCells_cells (P := Tryz.prog) g (m * 3) [.int .i64 0, .int .u8 0, .slice none 0 0] 0 W
    (fun j hj => by
      rw [cell_of_row _ _ _ _ _ _ hh, Array.getElem?_eq_getElem (by simp at hj; omega)]; rfl)
    (fun j hj => frozen_of_row _ g _ cur 88 hh) (by intro v hv; simp at hv; rcases hv with rfl | rfl | rfl <;> rfl)
  simp only [Nat.add_zero] at hst
  obtain ⟨cur', k1, k2, k3⟩ := setCells_row g 88 [.int .i64 0, .int .u8 0, .slice none 0 0] (m * 3) W cur hh
  refine ⟨_, ?_, setCells_grown g [.int .i64 0, .int .u8 0, .slice none 0 0] (m * 3) W, cur', k1, by rw [k2]; exact hs, ?_⟩
  · simp [Builtin.clear_, run_underlying Tryz.underlying38, Tryz.zeroValue88, hzc, hst]
  · apply List.ext_getElem?
    intro j
    rw [List.getElem?_take, List.getElem?_take]
    split
    · rename_i hj; rw [Array.getElem?_toList, Array.getElem?_toList, k3 j hj]
    · rfl
section
variable {ops : Array Oper} {rest : List Oper} {o : Oper} {a : Act} {Q : Exit → Act → World → Prop}
theorem step_append_run {W W' : World} (hgd : o.guard = none) (s x : Operand) (t : TypeId) (ho : o.op = .call { callee := .builtin .append, args := #[s, x], argTypes := #[t, t] }) (v u r : Value) (hs : a.eval s = v) (hx : a.eval x = u)
    (hr : (Builtin.append_ #[t, t] o.type #[v, u]).run Tryz.prog W = .ok r W') (h : wpList Tryz.prog ops Q rest (a.put o.dst r) W') : wpList Tryz.prog ops Q (o :: rest) a W :=
  wpList_plain hgd fun K hK => by
    unfold Oper.wp execOp
    simp only [ho, resolve, invoke, builtin, Sem.run_bind, Sem.run_pure, Result.andThen_ok, List.map_toArray, List.map_cons, List.map_nil, hs, hx, hr]
    exact hK _ _ h
theorem step_clear_run {W W' : World} (hgd : o.guard = none) (s : Operand) (t : TypeId) (ho : o.op = .call { callee := .builtin .clear, args := #[s], argTypes := #[t] }) (v r : Value) (hs : a.eval s = v)
    (hr : (Builtin.clear_ #[t] o.type #[v]).run Tryz.prog W = .ok r W') (h : wpList Tryz.prog ops Q rest (a.put o.dst r) W') : wpList Tryz.prog ops Q (o :: rest) a W :=
  wpList_plain hgd fun K hK => by
    unfold Oper.wp execOp
    simp only [ho, resolve, invoke, builtin, Sem.run_bind, Sem.run_pure, Result.andThen_ok, List.map_toArray, List.map_cons, List.map_nil, hs, hr]
    exact hK _ _ h
end
set_option maxHeartbeats 1000000 in
theorem delete_any (base g n m cap i j : Nat) (ts : List GT) (w : World) (hO : w.ownsRow base 88 3 (.slice (some ⟨g, 0, none⟩) n cap) n (gcells ts)) (hn : ts.length = n) (hm : n = m + 1) (hj : j = i + 1) (hi : j ≤ n) :
    Calls Tryz.prog 96 #[.slice (some ⟨g, 0, none⟩) n cap, .int .i64 (i : Int), .int .i64 (j : Int)] w fun e w' => e = .returned (.slice (some ⟨g, 0, none⟩) m cap) ∧ w.grownBy w' (some g) ∧ w'.ownsRow base 88 3 (.slice (some ⟨g, 0, none⟩) m cap) m (gcells (ts.eraseIdx i)) := by
  obtain ⟨hcap, hmax⟩ : n ≤ cap ∧ cap ≤ maxLen := by
    rcases hO.2 with ⟨h, _⟩ | ⟨g', cap', cur, e, hb, hh, hcap, hmax, _⟩
    · cases h
    · cases e; exact ⟨hcap, hmax⟩
  have hcap9 : cap ≤ 9223372036854775807 := by simpa [maxLen] using hmax
  -- the three slices
  have s13 : ∀ W, (Instr.slice 38 (.slice (some ⟨g, 0, none⟩) n cap) (some (.int .i64 (i : Int))) (some (.int .i64 (j : Int))) (some (.int .i64 (n : Int)))).run Tryz.prog W = .ok (.slice (some ⟨g, i * 3, none⟩) 1 (n - i)) W := fun W => by
    rw [run_slice_lhm W 38 _ n cap elem23 .i64 .i64 .i64 (i : Int) (j : Int) (n : Int) (by omega) (by omega) (by omega) (by omega), size23]
    simp only [Result.andThen, sliced, Int.toNat_natCast, Option.map_some, add_plain, Nat.zero_add]
    rw [if_neg (by omega), hj, Nat.add_sub_cancel_left]
  have s22 : ∀ W, (Instr.slice 38 (.slice (some ⟨g, 0, none⟩) n cap) none (some (.int .i64 (i : Int))) none).run Tryz.prog W = .ok (.slice (some ⟨g, 0, none⟩) i cap) W := fun W => by
    rw [run_slice_h W 38 _ n cap elem23 .i64 (i : Int) (by omega) (by omega), size23]
    simp only [Result.andThen, sliced, Int.toNat_natCast, Option.map_some, add_plain, Nat.zero_mul, Nat.add_zero, Nat.sub_zero, ite_self]
  obtain ⟨aj, haj, s25⟩ : ∃ aj : Addr, (j < n → aj = ⟨g, j * 3, none⟩) ∧ ∀ W, (Instr.slice 38 (.slice (some ⟨g, 0, none⟩) n cap) (some (.int .i64 (j : Int))) none none).run Tryz.prog W = .ok (.slice (some aj) (n - j) (cap - j)) W := by
    by_cases hc : cap = j
    · refine ⟨⟨g, 0, none⟩, fun h => by omega, fun W => ?_⟩
      rw [run_slice_l W 38 _ n cap elem23 .i64 (j : Int) (by omega) (by omega), size23]
      simp only [Result.andThen, sliced, Int.toNat_natCast]
      rw [if_pos hc]
    · refine ⟨⟨g, j * 3, none⟩, fun _ => rfl, fun W => ?_⟩
      rw [run_slice_l W 38 _ n cap elem23 .i64 (j : Int) (by omega) (by omega), size23]
      simp only [Result.andThen, sliced, Int.toNat_natCast, Option.map_some, add_plain, Nat.zero_add]
      rw [if_neg hc]
  have s31 : ∀ W, (Instr.slice 38 (.slice (some ⟨g, 0, none⟩) m cap) (some (.int .i64 (m : Int))) (some (.int .i64 (n : Int))) none).run Tryz.prog W = .ok (.slice (some ⟨g, m * 3, none⟩) 1 (cap - m)) W := fun W => by
    rw [run_slice_lh W 38 _ m cap elem23 .i64 .i64 (m : Int) (n : Int) (by omega) (by omega) (by omega), size23]
    simp only [Result.andThen, sliced, Int.toNat_natCast, Option.map_some, add_plain, Nat.zero_add]
    rw [if_neg (by omega), hm, Nat.add_sub_cancel_left]
  have hij : ((i : Int) == (j : Int)) = false := by rw [beq_eq_false_iff_ne]; omega
  have HN := hid (And.intro hn (And.intro hm (And.intro hj (And.intro hi (And.intro hcap hmax)))))
  have HO := hid hO
  clear hn hm hj hi hcap hmax hO hcap9
  go_enter Tryz.func96, Tryz.ntmps96
  go_wp2_with fail
  refine region_tail 6 (by kernel_rfl) (by kernel_rfl) ?_
  simp only [List.take_succ_cons, List.take_zero, List.drop_succ_cons, List.drop_zero]
  repeat (first | go_big_quiet_step (fail) | quiet_step (fail))
  refine wpQuiet_nil ?_
  rintro W ⟨pw, hW⟩
  have hBW : Below w.heap.size w W := by rw [hW]; exact since_below w pw
  have hOW := HO.out.kept (grown_of_below hBW none) (by simp [Value.ownBlock])
  obtain ⟨hn, hm, hj, hi, hcap, hmax⟩ := HN.out
  obtain ⟨W', hr, hG', cur, hh, hcs, -, -, hbg, htk⟩ := run_room23 W 38 base g n m cap i j ts aj (cap - j) hOW hn hm hj hi haj
  obtain ⟨W2, hr2, hG2, cur', hh2, hcs2, htk2⟩ := run_clear23 W' 0 g m cap cur (cap - m) hh hcs (by omega)
  have hGW : w.grownBy W2 (some g) := ((grown_of_below hBW (some g)).trans hG').trans hG2
  have hfin : W2.ownsRow base 88 3 (.slice (some ⟨g, 0, none⟩) m cap) m (gcells (ts.eraseIdx i)) :=
    ⟨by rw [gcells_length, List.length_eraseIdx, if_pos (by omega)]; omega, .inr ⟨g, cap, cur', rfl, hbg, hh2, by omega, hmax, hcs2, by rw [htk2, htk]⟩⟩
  have HF := hid (And.intro hGW hfin)
  clear hW hOW hn hm hj hi hcap hmax hG' hh hcs htk hG2 hh2 hcs2 htk2 hGW hfin hBW
  refine step_append_run rfl _ _ 38 rfl (.slice (some ⟨g, 0, none⟩) i cap) (.slice (some aj) (n - j) (cap - j)) _ rfl rfl hr ?_
  go_wp2_with (refine step_clear_run rfl _ 38 rfl (.slice (some ⟨g, m * 3, none⟩) 1 (cap - m)) _ rfl hr2 ?_)
  go_ret
  exact ⟨rfl, HF.out⟩
end Go.Proofs.YtnlobmepajakcaaGreatDoor
