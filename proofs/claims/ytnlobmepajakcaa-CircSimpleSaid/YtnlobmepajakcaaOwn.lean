/- Slices that a call makes itself and appends to; maps with whole numbers as keys; no condition but what is asked. -/
import Derived.Test.YtnlobmepajakcaaBase
import Derived.Maps.AppendAt
import Derived.Deep.AppendLies
import Derived.RangeFuncRecord
set_option linter.unusedVariables false
set_option linter.unusedSimpArgs false
namespace Go.Proofs.Ytnlobmepajakcaa
open Go.RowKit Go.Shelf

/-! ### append of one element -/
theorem own_form {w : World} {base : Nat} {e : TypeId} {size n : Nat} {v : Value} {xs : List Value} (h : w.ownsRow base e size v n xs) (hn : 0 < n) :
    ∃ g cap, v = .slice (some ⟨g, 0, none⟩) n cap ∧ base ≤ g ∧ g < w.heap.size ∧ n ≤ cap := by
  rcases h.2 with ⟨rfl, rfl⟩ | ⟨g, cap, cur, rfl, hb, hh, h1, h2, _⟩
  · omega
  · exact ⟨g, cap, rfl, hb, (Array.getElem?_eq_some_iff.1 hh).1, h1⟩
section
variable {P : Program} {ops : Array Oper} {rest : List Oper} {o : Oper} {a : Act} {Q : Exit → Act → World → Prop}
theorem append_one {W : World} (base : Nat) (hgd : o.guard = none) (s x : Operand) (t e : TypeId) (z : Value) (size bytes : Nat)
    (ho : o.op = .call { callee := .builtin .append, args := #[s, x], argTypes := #[t, t] })
    (ht : P.underlying t = some (.slice e)) (hinfo : (P.info? e).map (fun i => (i.zero, i.size, i.bytes)) = some (some z, size, bytes)) (hz : z.cells.size = size) (hs0 : 0 < size) (hb0 : 0 < bytes)
    (v : Value) (n : Nat) (xs : List Value) (cs : Array Value) (hs : a.eval s = v) (hx : a.eval x = .slice (some ⟨W.heap.size, 0, none⟩) 1 1) (hcs : cs.size = size) (h1 : ∀ u ∈ cs.toList, u.oneCell' = true)
    (HO : W.ownsRow base e size v n xs) (hbase : base ≤ W.heap.size) (hl : (n + 1) * bytes ≤ 140737488355328)
    (h : ∀ g cap w1, w1.ownsRow base e size (.slice (some ⟨g, 0, none⟩) (n + 1) cap) (n + 1) (xs ++ cs.toList) → W.grownBy w1 v.ownBlock → (v.ownBlock = some g ∨ W.heap.size ≤ g) → base ≤ g → g < w1.heap.size →
      wpList P ops Q rest (a.put o.dst (.slice (some ⟨g, 0, none⟩) (n + 1) cap)) w1) :
    wpList P ops Q (o :: rest) a (W.alloc (.cells cs e)) := by
  obtain ⟨i0, hi, hzz⟩ := Option.map_eq_some_iff.1 hinfo
  simp only [Prod.mk.injEq] at hzz
  obtain ⟨hz0, hz1, hz2⟩ := hzz
  have hlen : n + 1 ≤ 140737488355328 := Nat.le_trans (Nat.le_mul_of_pos_right _ hb0) hl
  refine wpList_append_own_at (W.alloc (.cells cs e)) hgd s x t ho base e i0 z size bytes ht hi hz0 hz1 hz2 hz hs0 v n xs hs (HO.alloc _) ⟨W.heap.size, 0, none⟩ 1 1 cs.toList hx (by simp [hcs])
    (World.news_of_block (cs := cs) (t := e) (fr := (0, 0)) (heap_alloc_new W _)) h1 (by simp only [maxLen]; omega) hl (by simp; omega) ?_
  intro v1 w1 hown hg _ hat
  obtain ⟨g, cap, rfl, hbg, hlt, _⟩ := own_form hown (by omega)
  refine h g cap w1 hown (World.grownBy.trans (World.grownBy_alloc W _ _) hg) ?_ hbg hlt
  rcases hat with hat | hat
  · exact .inl hat.symm
  · right
    have : g = (W.alloc (.cells cs e)).heap.size := by simpa [Value.ownBlock] using hat
    rw [this]; simp
end
theorem info3 : (Try.prog.info? 3).map (fun i => (i.zero, i.size, i.bytes)) = some (some (.int .i64 0), 1, 8) := by kernel_rfl
theorem info4 : (Try.prog.info? 4).map (fun i => (i.zero, i.size, i.bytes)) = some (some (.bool false), 1, 1) := by kernel_rfl
theorem info70 : (Try.prog.info? 70).map (fun i => (i.zero, i.size, i.bytes)) = some (some (.agg #[.int .i64 0, .int .u8 0, .slice none 0 0]), 3, 40) := by kernel_rfl
theorem info80 : (Try.prog.info? 80).map (fun i => (i.zero, i.size, i.bytes)) = some (some (.agg #[.bool false, .slice none 0 0]), 2, 32) := by kernel_rfl

/-- Whole numbers as cells. -/
def nums (xs : List Int) : List Value := xs.map fun x => .int .i64 x
theorem nums_length (xs : List Int) : (nums xs).length = xs.length := by simp [nums]
theorem nums_snoc (xs : List Int) (x : Int) : nums xs ++ (#[Value.int .i64 x] : Array Value).toList = nums (xs ++ [x]) := by simp [nums]
theorem ints_of_own {w : World} {base n : Nat} {v : Value} {xs : List Int} (h : w.ownsRow base 3 1 v n (nums xs)) (hx : ∀ x ∈ xs, I64 x) (hm : n ≤ 9223372036854775807) : IntsAt w v xs := by
  have hl : xs.length = n := by have := h.1; rw [nums_length] at this; omega
  rcases h.2 with ⟨rfl, h0⟩ | ⟨g, cap, cur, rfl, hb, hh, h1, h2, h3, h4⟩
  · subst h0
    have : xs = [] := List.eq_nil_of_length_eq_zero hl
    subst this
    exact ⟨none, 0, rfl, Nat.le_refl _, by omega, fun h => by simp at h⟩
  · refine ⟨some ⟨g, 0, none⟩, cap, by rw [hl], by omega, by simpa [maxLen] using h2, fun hp => ⟨g, 0, rfl, fun j x hj => ?_⟩⟩
    have hc := h.cells (g := g) rfl j (.int .i64 x) (by simp [nums, hj])
    have hadd : (⟨g, 0, none⟩ : Addr).add j = ⟨g, j, none⟩ := by unfold Addr.add; split <;> simp_all
    rw [hadd] at hc
    refine ⟨by rw [Nat.zero_add, Nat.mul_one]; exact hc, hx x (List.mem_of_getElem? hj)⟩

/-! ### Maps with whole numbers as keys -/
/-- The value of a key in a list of entries, and its place. -/
def fnd (k : Int) : List MapEntry → Nat → Option (Nat × Value)
  | [], _ => none
  | e :: es, i => match e.key with
    | .int .i64 a => if k = a then some (i, e.val) else fnd k es (i + 1)
    | _ => none
def AllInt (es : List MapEntry) : Prop := ∀ e ∈ es, ∃ a, e.key = .int .i64 a
theorem findNow_eq (k : Int) : ∀ (es : List MapEntry) (i : Nat), AllInt es → Instr.findNow (.int .i64) (.int .i64 k) es i = some (fnd k es i)
  | [], i, _ => rfl
  | e :: es, i, h => by
    obtain ⟨a, ha⟩ := h e (.head _)
    have ih := findNow_eq k es (i + 1) (fun e he => h e (.tail _ he))
    unfold Instr.findNow fnd
    rw [ha]
    simp only [Instr.sameNow, if_true]
    by_cases hk : k = a
    · subst hk; simp
    · rw [if_neg hk, beq_eq_false_iff_ne.2 hk]; exact ih
theorem fnd_shift (k : Int) : ∀ (es : List MapEntry) (i : Nat), (fnd k es i).map (·.2) = (fnd k es 0).map (·.2) ∧ (∀ j v, fnd k es i = some (j, v) → i ≤ j)
  | [], i => ⟨rfl, fun j v h => by cases h⟩
  | e :: es, i => by
    obtain ⟨h1, h2⟩ := fnd_shift k es (i + 1)
    obtain ⟨h3, _⟩ := fnd_shift k es 1
    unfold fnd
    cases hk : e.key with
    | int q a =>
      cases q <;> try exact ⟨rfl, fun j v h => by cases h⟩
      by_cases hka : k = a
      · simp only [if_pos hka]; exact ⟨rfl, fun j v h => by cases h; omega⟩
      · simp only [if_neg hka]; exact ⟨h1.trans h3.symm, fun j v h => by have := h2 j v h; omega⟩
    | _ => exact ⟨rfl, fun j v h => by cases h⟩
theorem fnd_push (k k' : Int) (v : Value) (c : Nat) : ∀ (es : List MapEntry) (i : Nat), AllInt es → fnd k es i = none →
    (fnd k' (es ++ [⟨.int .i64 k, v, c⟩]) i).map (·.2) = if k' = k then some v else (fnd k' es i).map (·.2)
  | [], i, _, _ => by
    simp only [List.nil_append, fnd]
    by_cases h : k' = k <;> simp [h]
  | e :: es, i, ha, hn => by
    obtain ⟨a, hk⟩ := ha e (.head _)
    have ha' : AllInt es := fun e he => ha e (.tail _ he)
    unfold fnd at hn
    rw [hk] at hn
    simp only at hn
    by_cases h1 : k = a
    · rw [if_pos h1] at hn; cases hn
    · rw [if_neg h1] at hn
      rw [List.cons_append]
      unfold fnd
      rw [hk]
      simp only
      by_cases h2 : k' = a
      · rw [if_pos h2, if_pos h2, if_neg (by omega)]
      · rw [if_neg h2, if_neg h2]; exact fnd_push k k' v c es (i + 1) ha' hn
theorem fnd_modify (k k' : Int) (v : Value) : ∀ (es : List MapEntry) (i j : Nat) (u : Value), AllInt es → fnd k es i = some (i + j, u) →
    (fnd k' (es.modify j fun e => { e with key := .int .i64 k, val := v }) i).map (·.2) = if k' = k then some v else (fnd k' es i).map (·.2)
  | [], i, j, u, _, h => by cases h
  | e :: es, i, j, u, ha, h => by
    obtain ⟨a, hk⟩ := ha e (.head _)
    have ha' : AllInt es := fun e he => ha e (.tail _ he)
    unfold fnd at h
    rw [hk] at h
    simp only at h
    by_cases h1 : k = a
    · rw [if_pos h1] at h
      have hj : j = 0 := by injection h with h; injection h with h _; omega
      subst hj
      simp only [List.modify_zero_cons]
      unfold fnd
      rw [hk]
      simp only
      by_cases h2 : k' = k
      · rw [if_pos h2, if_pos h2]; rfl
      · rw [if_neg h2, if_neg h2, if_neg (by omega)]
    · rw [if_neg h1] at h
      have h3 := (fnd_shift k es (i + 1)).2 _ _ h
      obtain ⟨m, rfl⟩ : ∃ m, j = m + 1 := ⟨j - 1, by omega⟩
      simp only [List.modify_succ_cons]
      unfold fnd
      rw [hk]
      simp only
      by_cases h2 : k' = a
      · rw [if_pos h2, if_pos h2, if_neg (by omega)]
      · rw [if_neg h2, if_neg h2]
        exact fnd_modify k k' v es (i + 1) m u ha' (by rw [h]; congr 2; omega)

/-- A map with whole numbers as keys. -/
def IntMap (w : World) (r : Nat) (f : Int → Option Value) : Prop :=
  ∃ es clock, w.heap[r]? = some (.map es clock) ∧ AllInt es.toList ∧ ∀ k, (fnd k es.toList 0).map (·.2) = f k
theorem IntMap.new (w : World) : IntMap (w.alloc (.map #[] 0)) w.heap.size (fun _ => none) := ⟨#[], 0, heap_alloc_new w _, fun e he => by simp at he, fun k => rfl⟩
theorem IntMap.lt {w : World} {r : Nat} {f : Int → Option Value} (h : IntMap w r f) : r < w.heap.size := by
  obtain ⟨es, c, h1, _⟩ := h
  exact (Array.getElem?_eq_some_iff.1 h1).1
theorem IntMap.heap {w w' : World} {r : Nat} {f : Int → Option Value} (h : IntMap w r f) (e : w'.heap[r]? = w.heap[r]?) : IntMap w' r f := by
  obtain ⟨es, c, h1, h2⟩ := h
  exact ⟨es, c, e.trans h1, h2⟩
theorem IntMap.kept {w w' : World} {r : Nat} {f : Int → Option Value} (h : IntMap w r f) {row : Option Nat} (hg : w.grownBy w' row) (hne : row ≠ some r) : IntMap w' r f :=
  h.heap (hg.block r h.lt (fun e => hne e.symm))
theorem IntMap.below {w w' : World} {r : Nat} {f : Int → Option Value} (h : IntMap w r f) (hb : Below w.heap.size w w') : IntMap w' r f := h.heap (hb.block r h.lt)
section
variable {P : Program}
theorem run_getMap {w : World} {r : Nat} {es : Array MapEntry} {c : Nat} (h : w.heap[r]? = some (.map es c)) : (getObj r).run P w = .ok (.map es c) w := by
  simp [getObj, Sem.run, h]
theorem run_checkKey {w : World} {K : TypeId} (hK : P.underlying K = some (.int .i64)) (e : Bool) (k : Int) : (Instr.checkKey e 10000 K (.int .i64 k)).run P w = .ok () w := by
  unfold Instr.checkKey
  rw [Sem.run_bind, run_underlying hK]
  rfl
theorem run_findKey {w : World} {K : TypeId} (hK : P.underlying K = some (.int .i64)) (k : Int) (es : List MapEntry) (ha : AllInt es) : (Instr.findKey K (.int .i64 k) es).run P w = .ok (fnd k es 0) w := by
  unfold Instr.findKey
  rw [Sem.run_bind, run_underlying hK]
  simp only [Result.andThen_ok, findNow_eq k es 0 ha]
  rfl
theorem run_lookup {w : World} {T K E r : Nat} {f : Int → Option Value} (hT : P.underlying T = some (.map K E)) (hK : P.underlying K = some (.int .i64)) {z : Value} (hz : ∀ w, (zeroValue E).run P w = .ok z w)
    (h : IntMap w r f) (k : Int) : (Instr.lookup T (.map (some r)) (.int .i64 k) false).run P w = .ok ((f k).getD z) w := by
  obtain ⟨es, c, h1, h2, h3⟩ := h
  unfold Instr.lookup
  rw [Sem.run_bind, run_underlying hT]
  simp only [Result.andThen_ok, Sem.run_bind, run_getMap h1, Sem.run_pure, run_checkKey hK, run_findKey hK k es.toList h2]
  rw [← h3 k]
  cases fnd k es.toList 0 with
  | none => simp [Sem.run_bind, hz]
  | some p => simp
theorem run_lookup_ok {w : World} {T K E r : Nat} {f : Int → Option Value} (hT : P.underlying T = some (.map K E)) (hK : P.underlying K = some (.int .i64)) {z : Value} (hz : ∀ w, (zeroValue E).run P w = .ok z w)
    (h : IntMap w r f) (k : Int) : (Instr.lookup T (.map (some r)) (.int .i64 k) true).run P w = .ok (.tuple #[(f k).getD z, .bool (f k).isSome]) w := by
  obtain ⟨es, c, h1, h2, h3⟩ := h
  unfold Instr.lookup
  rw [Sem.run_bind, run_underlying hT]
  simp only [Result.andThen_ok, Sem.run_bind, run_getMap h1, Sem.run_pure, run_checkKey hK, run_findKey hK k es.toList h2]
  rw [← h3 k]
  cases fnd k es.toList 0 with
  | none => simp [Sem.run_bind, hz]
  | some p => simp
theorem run_setMap {w : World} {r : Nat} {es : Array MapEntry} {c : Nat} (h : w.heap[r]? = some (.map es c)) (o : Obj) : (setObj r o).run P w = .ok () (w.putObj r o) := by
  simp [setObj, Sem.run, h, World.putObj]
theorem grown_putObj (w : World) (r : Nat) (o : Obj) : w.grownBy (w.putObj r o) (some r) :=
  ⟨rfl, rfl, rfl, by simp [World.putObj], fun k _ hne => World.putObj_heap_other (fun e => hne (by rw [e]))⟩
theorem run_update {w : World} {T K E r : Nat} {f : Int → Option Value} (hT : P.underlying T = some (.map K E)) (hK : P.underlying K = some (.int .i64)) (h : IntMap w r f) (k : Int) (v : Value) :
    ∃ w', (Instr.mapUpdate T (.map (some r)) (.int .i64 k) v).run P w = .ok () w' ∧ IntMap w' r (fun k' => if k' = k then some v else f k') ∧ w.grownBy w' (some r) := by
  obtain ⟨es, c, h1, h2, h3⟩ := h
  have hlt := (Array.getElem?_eq_some_iff.1 h1).1
  cases hf : fnd k es.toList 0 with
  | none =>
    refine ⟨w.putObj r (.map (es.push ⟨.int .i64 k, v, c⟩) (c + 1)), ?_, ⟨_, _, World.putObj_heap_same hlt, ?_, fun k' => ?_⟩, grown_putObj _ _ _⟩
    · unfold Instr.mapUpdate
      rw [Sem.run_bind, run_underlying hT]
      simp only [Result.andThen_ok, Sem.run_bind, run_getMap h1, run_checkKey hK, run_findKey hK k es.toList h2, hf, run_setMap h1]
    · intro e he
      simp only [Array.toList_push, List.mem_append, List.mem_singleton] at he
      rcases he with he | rfl
      · exact h2 e he
      · exact ⟨k, rfl⟩
    · rw [Array.toList_push, fnd_push k k' v c _ 0 h2 hf, h3]
  | some p =>
    obtain ⟨j, u⟩ := p
    have hst : (Instr.keyThatStays (((es[j]?).map (·.key)).getD (.int .i64 k)) (.int .i64 k)).run P w = .ok (.int .i64 k) w := by
      have : ((es[j]?).map (·.key)).getD (.int .i64 k) = .int .i64 k := by
        have aux : ∀ (l : List MapEntry) (i m : Nat) (u : Value), AllInt l → fnd k l i = some (i + m, u) → (l[m]?).map (·.key) = some (.int .i64 k) := by
          intro l
          induction l with
          | nil => intro i m u _ h; cases h
          | cons e l ih =>
            intro i m u ha h
            obtain ⟨a, hk⟩ := ha e (.head _)
            unfold fnd at h
            rw [hk] at h
            simp only at h
            by_cases h1 : k = a
            · rw [if_pos h1] at h
              have hm : m = 0 := by injection h with h; injection h with h _; omega
              subst hm
              simp [hk, h1]
            · rw [if_neg h1] at h
              have h3 := (fnd_shift k l (i + 1)).2 _ _ h
              obtain ⟨q, rfl⟩ : ∃ q, m = q + 1 := ⟨m - 1, by omega⟩
              simpa using ih (i + 1) q u (fun e he => ha e (.tail _ he)) (by rw [h]; congr 2; omega)
        have := aux es.toList 0 j u h2 (by rw [hf]; simp)
        rw [Array.getElem?_toList] at this
        rw [this]; rfl
      rw [this]
      simp [Instr.keyThatStays, Instr.sameBits]
    refine ⟨w.putObj r (.map (es.modify j fun e => { e with key := .int .i64 k, val := v }) c), ?_, ⟨_, _, World.putObj_heap_same hlt, ?_, fun k' => ?_⟩, grown_putObj _ _ _⟩
    · unfold Instr.mapUpdate
      rw [Sem.run_bind, run_underlying hT]
      simp only [Result.andThen_ok, Sem.run_bind, run_getMap h1, run_checkKey hK, run_findKey hK k es.toList h2, hf, hst, run_setMap h1]
    · intro e he
      rw [Array.toList_modify] at he
      obtain ⟨m, hm⟩ := List.getElem?_of_mem he
      rw [List.getElem?_modify] at hm
      obtain ⟨e0, he0, hee⟩ := Option.map_eq_some_iff.1 hm
      by_cases hjm : j = m
      · rw [if_pos hjm] at hee; exact ⟨k, by rw [← hee]⟩
      · rw [if_neg hjm] at hee; exact ⟨_, by rw [← hee]; exact (h2 e0 (List.mem_of_getElem? he0)).choose_spec⟩
    · rw [Array.toList_modify, fnd_modify k k' v _ 0 j u h2 (by rw [hf]; simp), h3]
end
end Go.Proofs.Ytnlobmepajakcaa
