/- Two gates of a row change places; a slice of 16-bit numbers; no condition but what is asked. -/
import Derived.Test.YtnlobmepajakcaaOrdA
import Derived.Test.YtnlobmepajakcaaSemA
set_option linter.unusedVariables false
set_option linter.unusedSimpArgs false
namespace Go.Proofs.Ytnlobmepajakcaa
open Go.RowKit Go.Shelf

theorem gcells_set : ∀ (ts : List GT) (i : Nat) (t : GT), i < ts.length → gcells (ts.set i t) = (((gcells ts).set (i * 3) (.int .i64 t.1)).set (i * 3 + 1) (.int .u8 t.2.1)).set (i * 3 + 2) (.slice t.2.2.1 t.2.2.2.1 t.2.2.2.2)
  | x :: ts, 0, t, h => by
    simp only [List.set_cons_zero, gcells, List.flatMap_cons, enc3, Nat.zero_mul, Nat.zero_add, List.cons_append, List.nil_append, List.set_cons_succ]
  | x :: ts, i + 1, t, h => by
    have ih := gcells_set ts i t (by simpa using h)
    have e0 : (i + 1) * 3 = (i * 3) + 1 + 1 + 1 := by omega
    have e1 : (i + 1) * 3 + 1 = (i * 3 + 1) + 1 + 1 + 1 := by omega
    have e2 : (i + 1) * 3 + 2 = (i * 3 + 2) + 1 + 1 + 1 := by omega
    rw [e0, show i * 3 + 1 + 1 + 1 + 1 = (i * 3 + 1) + 1 + 1 + 1 by omega, show i * 3 + 1 + 1 + 1 + 2 = (i * 3 + 2) + 1 + 1 + 1 by omega]
    have hc : gcells (x :: ts) = .int .i64 x.1 :: .int .u8 x.2.1 :: .slice x.2.2.1 x.2.2.2.1 x.2.2.2.2 :: gcells ts := rfl
    have hc2 : gcells (x :: ts.set i t) = .int .i64 x.1 :: .int .u8 x.2.1 :: .slice x.2.2.1 x.2.2.2.1 x.2.2.2.2 :: gcells (ts.set i t) := rfl
    rw [List.set_cons_succ, hc, hc2, ih, List.set_cons_succ, List.set_cons_succ, List.set_cons_succ, List.set_cons_succ, List.set_cons_succ, List.set_cons_succ, List.set_cons_succ, List.set_cons_succ, List.set_cons_succ]
theorem put_row {W : World} {base g n cap i : Nat} {ts : List GT} (t : GT) (hO : W.ownsRow base 70 3 (.slice (some ⟨g, 0, none⟩) n cap) n (gcells ts)) (hn : ts.length = n) (hi : i < n) :
    ∃ x, ts[i]? = some x ∧ W.frozen? ⟨g, i * 3, none⟩ = false ∧ W.cell? ⟨g, i * 3, none⟩ = some (.int .i64 x.1) ∧
      (W.setCell ⟨g, i * 3, none⟩ (.int .i64 t.1)).frozen? ⟨g, i * 3 + 1, none⟩ = false ∧ (W.setCell ⟨g, i * 3, none⟩ (.int .i64 t.1)).cell? ⟨g, i * 3 + 1, none⟩ = some (.int .u8 x.2.1) ∧
      ((W.setCell ⟨g, i * 3, none⟩ (.int .i64 t.1)).setCell ⟨g, i * 3 + 1, none⟩ (.int .u8 t.2.1)).frozen? ⟨g, i * 3 + 2, none⟩ = false ∧
      ((W.setCell ⟨g, i * 3, none⟩ (.int .i64 t.1)).setCell ⟨g, i * 3 + 1, none⟩ (.int .u8 t.2.1)).cell? ⟨g, i * 3 + 2, none⟩ = some (.slice x.2.2.1 x.2.2.2.1 x.2.2.2.2) ∧
      (((W.setCell ⟨g, i * 3, none⟩ (.int .i64 t.1)).setCell ⟨g, i * 3 + 1, none⟩ (.int .u8 t.2.1)).setCell ⟨g, i * 3 + 2, none⟩ (.slice t.2.2.1 t.2.2.2.1 t.2.2.2.2)).ownsRow base 70 3 (.slice (some ⟨g, 0, none⟩) n cap) n (gcells (ts.set i t)) ∧
      W.grownBy (((W.setCell ⟨g, i * 3, none⟩ (.int .i64 t.1)).setCell ⟨g, i * 3 + 1, none⟩ (.int .u8 t.2.1)).setCell ⟨g, i * 3 + 2, none⟩ (.slice t.2.2.1 t.2.2.2.1 t.2.2.2.2)) (some g) := by
  obtain ⟨hl, h | ⟨g', cap', cur, e, hb, hh, hcap, hmax, hcs, htk⟩⟩ := hO
  · cases h.1
  cases e
  obtain ⟨x, hx⟩ : ∃ x, ts[i]? = some x := ⟨_, List.getElem?_eq_getElem (by omega)⟩
  have hcell : ∀ j, j < n * 3 → cur[j]? = (gcells ts)[j]? := fun j hj => by
    rw [← htk, List.getElem?_take, if_pos hj, Array.getElem?_toList]
  have c0 := (hcell (i * 3 + 0) (by omega)).trans (gcells_get ts i 0 x hx (by omega))
  have c1 := (hcell (i * 3 + 1) (by omega)).trans (gcells_get ts i 1 x hx (by omega))
  have c2 := (hcell (i * 3 + 2) (by omega)).trans (gcells_get ts i 2 x hx (by omega))
  rw [Nat.add_zero] at c0
  have r1 := heap_setCell_same W g (i * 3) cur 70 (.int .i64 t.1) hh
  have r2 := heap_setCell_same _ g (i * 3 + 1) _ 70 (.int .u8 t.2.1) r1
  have r3 := heap_setCell_same _ g (i * 3 + 2) _ 70 (.slice t.2.2.1 t.2.2.2.1 t.2.2.2.2) r2
  refine ⟨x, hx, frozen_of_row _ g _ cur 70 hh, cell_row hh (by rw [c0]; rfl), frozen_of_row _ g _ _ 70 r1, cell_row r1 ?_, frozen_of_row _ g _ _ 70 r2, cell_row r2 ?_, ?_,
    ((grown_setCell W ⟨g, i * 3, none⟩ _).trans (grown_setCell _ ⟨g, i * 3 + 1, none⟩ _)).trans (grown_setCell _ ⟨g, i * 3 + 2, none⟩ _)⟩
  · rw [Array.getElem?_setIfInBounds_ne (by omega), c1]; rfl
  · rw [Array.getElem?_setIfInBounds_ne (by omega), Array.getElem?_setIfInBounds_ne (by omega), c2]; rfl
  · refine ⟨by rw [gcells_length, List.length_set, hn], .inr ⟨g, cap, _, rfl, hb, r3, hcap, hmax, by simp [hcs], ?_⟩⟩
    rw [gcells_set ts i t (by omega), ← htk]
    simp only [Array.toList_setIfInBounds]
    have st : ∀ (l : List Value) (k : Nat) (v : Value), (l.set k v).take (n * 3) = (l.take (n * 3)).set k v := fun l k v => by
      rw [List.take_set]
    rw [st, st, st]
theorem row_cells {W : World} {base g n cap i : Nat} {ts : List GT} {x : GT} (hO : W.ownsRow base 70 3 (.slice (some ⟨g, 0, none⟩) n cap) n (gcells ts)) (hn : ts.length = n) (hx : ts[i]? = some x) :
    W.cell? ⟨g, i * 3, none⟩ = some (.int .i64 x.1) ∧ W.cell? ⟨g, i * 3 + 1, none⟩ = some (.int .u8 x.2.1) ∧ W.cell? ⟨g, i * 3 + 2, none⟩ = some (.slice x.2.2.1 x.2.2.2.1 x.2.2.2.2) := by
  have hi := (List.getElem?_eq_some_iff.1 hx).1
  obtain ⟨hl, h | ⟨g', cap', cur, e, hb, hh, hcap, hmax, hcs, htk⟩⟩ := hO
  · cases h.1
  cases e
  have hcell : ∀ j, j < n * 3 → cur[j]? = (gcells ts)[j]? := fun j hj => by
    rw [← htk, List.getElem?_take, if_pos hj, Array.getElem?_toList]
  have c0 := (hcell (i * 3 + 0) (by omega)).trans (gcells_get ts i 0 x hx (by omega))
  have c1 := (hcell (i * 3 + 1) (by omega)).trans (gcells_get ts i 1 x hx (by omega))
  have c2 := (hcell (i * 3 + 2) (by omega)).trans (gcells_get ts i 2 x hx (by omega))
  rw [Nat.add_zero] at c0
  exact ⟨cell_row hh (by rw [c0]; rfl), cell_row hh (by rw [c1]; rfl), cell_row hh (by rw [c2]; rfl)⟩
/-- The cell of a 16-bit number. -/
def U16C (w : World) (b off : Nat) (x : Int) : Prop := w.cell? ⟨b, off, none⟩ = some (.int .u16 x) ∧ 0 ≤ x ∧ x ≤ 65535
def U16At (w : World) (v : Value) (xs : List Int) : Prop := SlAt 1 U16C w v xs
theorem U16At.keep {w w' : World} {v : Value} {xs : List Int} (h : U16At w v xs) (hk : Keeps w w') : U16At w' v xs := by
  obtain ⟨a, c, e, h1, h2, h3⟩ := h
  refine ⟨a, c, e, h1, h2, fun hp => ?_⟩
  obtain ⟨b, off, e2, h4⟩ := h3 hp
  exact ⟨b, off, e2, fun j x hj => ⟨hk _ _ (h4 j x hj).1, (h4 j x hj).2⟩⟩
set_option maxHeartbeats 1000000 in
/-- append([]Gate{}, gs...): a copy of gates in memory of one's own. -/
theorem copy_gates (W : World) (ty : TypeId) (u : Value) (gs : List PGate) (h : GatesAt W u gs) (hn : gs.length ≤ 1099511627776) :
    ∃ A cap w1, (Builtin.append_ #[23, 23] ty #[.slice (some ⟨W.heap.size, 0, none⟩) 0 0, u]).run Try.prog (W.alloc (.cells #[] 70)) = .ok (.slice A gs.length cap) w1 ∧ Below W.heap.size W w1 ∧ RowG W w1 W.heap.size (.slice A gs.length cap) gs := by
  obtain ⟨A, c, rfl, hlc, hcm⟩ := h.form
  obtain ⟨es, he1, he2, he3⟩ := rowG_of h
  obtain ⟨i0, hi, hzz⟩ := Option.map_eq_some_iff.1 info70
  simp only [Prod.mk.injEq] at hzz
  obtain ⟨hz0, hz1, hz2⟩ := hzz
  have hB1 : Below W.heap.size W (W.alloc (.cells #[] 70)) := (Below.refl _ _).alloc (Nat.le_refl _) _
  have hO1 : (W.alloc (.cells #[] 70)).ownsRow W.heap.size 70 3 (.slice (some ⟨W.heap.size, 0, none⟩) 0 0) 0 [] :=
    ⟨rfl, .inr ⟨_, 0, #[], rfl, Nat.le_refl _, heap_alloc_new W _, Nat.le_refl _, by simp [maxLen], rfl, rfl⟩⟩
  cases A with
  | none =>
    have h0 : gs.length = 0 := by
      by_cases hp : 0 < gs.length
      · obtain ⟨b, off, e, _⟩ := he3 hp; cases e
      · omega
    have hg : gs = [] := List.eq_nil_of_length_eq_zero h0
    subst hg
    refine ⟨_, 0, _, ?_, hB1, [], rfl, hO1, fun e he => by cases he⟩
    simp [Builtin.append_, run_underlying Try.underlying23, sizeOf, typeInfo, hi, Builtin.lenOf, Builtin.firstCells, loadCells, loadCellsFrom, storeCells]
  | some ad =>
    obtain ⟨v', w', hr, h2, h3, _, h5⟩ := run_append_own_at (P := Try.prog) (W.alloc (.cells #[] 70)) W.heap.size 23 ty 70 i0 (.agg #[.int .i64 0, .int .u8 0, .slice none 0 0]) 3 40 Try.underlying23 hi hz0 hz1 hz2 rfl (by decide) (.slice (some ⟨W.heap.size, 0, none⟩) 0 0) 0 [] hO1 ad gs.length c (gcells (es.map (·.1)))
      (by rw [gcells_length, ← he1]; simp) (fun j u hu => by
        have hp : 0 < gs.length := by
          have := (List.getElem?_eq_some_iff.1 hu).1
          rw [gcells_length] at this
          rw [← he1]; simp at this ⊢; omega
        obtain ⟨b, off, e, h3⟩ := he3 hp
        cases e
        rw [add_plain]
        exact keeps_below hB1 _ _ (h3 j u hu)) (fun u hu => gcells_one u hu) (by simp only [maxLen]; omega) (by omega) hB1.size
    rw [Nat.zero_add, List.nil_append] at h2
    obtain ⟨A', cap, rfl⟩ := own_shape h2
    exact ⟨A', cap, w', hr, hB1.grown h3 hB1.size (fun r e => (hO1.lt r e).1), es, he1, h2, he2⟩
/-- What a row of gates is, for a swap. -/
theorem RowG.cells {w0 W : World} {base n cap g : Nat} {gs : List PGate} (h : RowG w0 W base (.slice (some ⟨g, 0, none⟩) n cap) gs) (hn : gs.length = n) {i k : Nat} (hi : i < n) (hk : k < n) :
    ∃ (ts : List GT) (x y : GT), W.ownsRow base 70 3 (.slice (some ⟨g, 0, none⟩) n cap) n (gcells ts) ∧ ts.length = n ∧ ts[i]? = some x ∧ ts[k]? = some y ∧
      ∀ W', W'.ownsRow base 70 3 (.slice (some ⟨g, 0, none⟩) n cap) n (gcells ((ts.set i y).set k x)) → RowG w0 W' base (.slice (some ⟨g, 0, none⟩) n cap) (swapL gs i k) := by
  obtain ⟨es, h1, h2, h3⟩ := h
  subst hn
  have hl : es.length = gs.length := by rw [← h1]; simp
  obtain ⟨p, hp⟩ : ∃ p, es[i]? = some p := ⟨_, List.getElem?_eq_getElem (by omega)⟩
  obtain ⟨q, hq⟩ : ∃ q, es[k]? = some q := ⟨_, List.getElem?_eq_getElem (by omega)⟩
  refine ⟨es.map (·.1), p.1, q.1, h2, by simp [hl], by simp [hp], by simp [hq], fun W' hW' => ⟨(es.set i q).set k p, ?_, ?_, fun e he => ?_⟩⟩
  · unfold swapL
    have e1 : gs[i]? = some p.2 := by rw [← h1]; simp [hp]
    have e2 : gs[k]? = some q.2 := by rw [← h1]; simp [hq]
    rw [e1, e2]
    simp only [List.map_set, h1]
  · rw [(swapL_perm gs i k).length_eq]
    simp only [List.map_set]
    exact hW'
  · rcases List.mem_or_eq_of_mem_set he with he | rfl
    · rcases List.mem_or_eq_of_mem_set he with he | rfl
      · exact h3 e he
      · exact h3 _ (List.mem_of_getElem? hq)
    · exact h3 _ (List.mem_of_getElem? hp)
theorem U16At.at_ {w : World} {A : Option Addr} {n c : Nat} {xs : List Int} (h : U16At w (.slice A n c) xs) (i : Nat) (x : Int) (hi : xs[i]? = some x) :
    ∃ b off, A = some ⟨b, off, none⟩ ∧ w.cell? ⟨b, off + i, none⟩ = some (.int .u16 x) ∧ 0 ≤ x ∧ x ≤ 65535 := by
  obtain ⟨A', c', e, h1, h2, h3⟩ := h
  cases e
  obtain ⟨b, off, e2, h4⟩ := h3 (by have := (List.getElem?_eq_some_iff.1 hi).1; omega)
  have := h4 i x hi
  rw [Nat.mul_one] at this
  exact ⟨b, off, e2, this⟩
end Go.Proofs.Ytnlobmepajakcaa
