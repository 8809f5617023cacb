/- What strings.SplitAfter does to a text of whole lines; the condition: texts have at most 2^31 bytes. -/
import Derived.Test.YtnlobmepajakcaaGreatDoorPrA
import Derived.Test.YtnlobmepajakcaaGreatDoorQw
import Derived.Lib.SplitLaws
set_option linter.unusedVariables false
set_option linter.unusedSimpArgs false
namespace Go.Proofs.YtnlobmepajakcaaGreatDoor
open Go.RowKit Go.Shelf

theorem index_line : ∀ (l rest : Bs), (∀ c ∈ l, c ≠ 10) → Lib.index (l ++ 10 :: rest) [10] = (l.length : Int)
  | [], rest, _ => by rw [List.nil_append, Lib.index]; simp [List.isPrefixOf]
  | c :: l, rest, h => by
    have ih := index_line l rest (fun x hx => h x (by simp [hx]))
    have hc : c ≠ 10 := h c (by simp)
    rw [List.cons_append, Lib.index, ih]
    have hp : ([10] : Bs).isPrefixOf (c :: (l ++ 10 :: rest)) = false := by simp [List.isPrefixOf, Ne.symm hc]
    have hne : ((l.length : Int) == -1) = false := by rw [beq_eq_false_iff_ne]; omega
    rw [hp, hne]
    simp
/-- Lines with their line feeds. -/
def whole (ls : List Bs) : Bs := ls.flatMap fun l => l ++ [10]
theorem whole_cons (l : Bs) (ls : List Bs) : whole (l :: ls) = l ++ 10 :: whole ls := by simp [whole]
theorem whole_count : ∀ (ls : List Bs), (∀ l ∈ ls, ∀ c ∈ l, c ≠ 10) → Lib.count (whole ls) [10] = ls.length
  | [], _ => rfl
  | l :: ls, h => by
    have ih := whole_count ls (fun x hx => h x (by simp [hx]))
    rw [Lib.count_one] at ih ⊢
    have h0 : l.count 10 = 0 := List.count_eq_zero.2 (fun hm => h l (by simp) 10 hm rfl)
    rw [whole_cons, List.count_append, List.count_cons_self, ih, h0]
    simp
theorem whole_len : ∀ (ls : List Bs), ls.length ≤ (whole ls).length
  | [] => Nat.le_refl _
  | l :: ls => by
    have := whole_len ls
    rw [whole_cons]
    simp only [List.length_append, List.length_cons]
    omega
theorem split_whole : ∀ (ls : List Bs), (∀ l ∈ ls, ∀ c ∈ l, c ≠ 10) → Lib.splitB ⟨#[10]⟩ 1 ls.length ⟨(whole ls).toArray⟩ = ls.map (fun l => (⟨(l ++ [10]).toArray⟩ : ByteArray)) ++ [⟨#[]⟩]
  | [], _ => rfl
  | l :: ls, h => by
    have ih := split_whole ls (fun x hx => h x (by simp [hx]))
    have hi : Lib.indexB ⟨(whole (l :: ls)).toArray⟩ ⟨#[10]⟩ = (l.length : Int) := by
      show Lib.index (whole (l :: ls)) [10] = _
      rw [whole_cons]
      exact index_line l _ (h l (by simp))
    rw [List.length_cons, Lib.splitB_hit _ _ _ _ _ hi, List.map_cons, List.cons_append]
    have hw : whole (l :: ls) = (l ++ [10]) ++ whole ls := by rw [whole_cons]; simp
    have ln : (l ++ [10]).length = l.length + 1 := by simp
    have e1 : (⟨(whole (l :: ls)).toArray⟩ : ByteArray).extract 0 (l.length + 1) = ⟨(l ++ [10]).toArray⟩ := by
      apply ByteArray.ext
      rw [ByteArray.data_extract, hw]
      apply Array.toList_inj.1
      rw [Array.toList_extract]
      simp only [List.extract_eq_take_drop, List.drop_zero, Nat.sub_zero]
      exact List.take_left' ln
    have e2 : (⟨(whole (l :: ls)).toArray⟩ : ByteArray).extract (l.length + (⟨#[10]⟩ : ByteArray).size) (⟨(whole (l :: ls)).toArray⟩ : ByteArray).size = ⟨(whole ls).toArray⟩ := by
      apply ByteArray.ext
      rw [ByteArray.data_extract, hw]
      apply Array.toList_inj.1
      rw [Array.toList_extract]
      simp only [List.extract_eq_take_drop]
      have hd : ((l ++ [10]) ++ whole ls).drop (l.length + 1) = whole ls := List.drop_left' ln
      show ((((l ++ [10]) ++ whole ls).drop (l.length + 1)).take (((l ++ [10]) ++ whole ls).toArray.size - (l.length + 1))) = whole ls
      rw [hd]
      apply List.take_of_length_le
      simp
      omega
    rw [e1, e2, ih]
theorem text_whole (N : PNet) : textP N = whole (textL N) := by
  have hb : ∀ ls : List Bs, whole ls = (ls.map fun l => l ++ [10]).flatten := fun ls => by simp [whole, List.flatMap]
  unfold textP textL whole
  simp only [List.flatMap_cons, List.flatMap_append, List.flatMap_map]
  have e1 : N.pre.flatMap blockS = N.pre.flatMap fun a => blockB a ++ [10] := by
    congr 1
    funext a
    unfold blockS blockB listS listB
    simp
  have e2 : N.gates.flatMap gateS = N.gates.flatMap fun a => gateB a ++ [10] := by
    congr 1
    funext a
    unfold gateS gateB listS listB
    simp
  rw [e1, e2]
  unfold headP outB listS listB
  simp
theorem textL_nl (N : PNet) : ∀ l ∈ textL N, ∀ c ∈ l, c ≠ 10 := fun l hl c hc => by
  unfold textL at hl
  rcases List.mem_cons.1 hl with rfl | hl
  · revert c hc; decide
  · rcases List.mem_append.1 hl with hl | hl
    · obtain ⟨b, _, rfl⟩ := List.mem_map.1 hl
      exact no_nl_block b c hc
    · rcases List.mem_cons.1 hl with rfl | hl
      · exact no_nl_out _ c hc
      · obtain ⟨g, _, rfl⟩ := List.mem_map.1 hl
        exact no_nl_gate g c hc
/-- The lines of a net's text, with their line feeds, and what is behind the last one. -/
def rowL (N : PNet) : List Bs := (textL N).map (fun l => l ++ [10]) ++ [[]]
set_option maxRecDepth 100000 in
theorem splitAfter_text (N : PNet) (w : World) (hl : (textP N).length ≤ 2000000000) (hE : Env w) :
    Calls Tryz.prog 24 #[.string ⟨(textP N).toArray⟩, .string ⟨#[10]⟩] w fun e w' => e = .returned (.slice (some ⟨w.heap.size, 0, none⟩) (rowL N).length (rowL N).length) ∧ w' = w.alloc (.cells ((rowL N).map sv).toArray 9) := by
  obtain ⟨m, hm⟩ := hE.max
  have hcount : Lib.countB ⟨(textP N).toArray⟩ ⟨#[10]⟩ = (textL N).length := by
    show Lib.count (textP N) [10] = _
    rw [text_whole]; exact whole_count _ (textL_nl N)
  have hlen := whole_len (textL N)
  rw [← text_whole] at hlen
  have C := Tryz.strings_genSplit ⟨(textP N).toArray⟩ ⟨#[10]⟩ 1 (-1) ((textL N).length + 1) m w (by show (textP N).length < _; omega) hm (by decide) (by decide) (by decide) (by decide) (by
    rw [hcount, if_pos (by decide)]
    show (((textL N).length + 1 : Nat) : Int) = min (((textL N).length : Int) + 1) (((textP N).length : Int) + 1)
    omega)
  have hsp : Lib.splitB ⟨#[10]⟩ 1 ((textL N).length + 1 - 1) ⟨(textP N).toArray⟩ = (rowL N).map (fun l => (⟨l.toArray⟩ : ByteArray)) := by
    rw [Nat.add_sub_cancel, text_whole, split_whole _ (textL_nl N)]
    unfold rowL
    simp
  have hrl : (rowL N).length = (textL N).length + 1 := by unfold rowL; simp
  rw [hsp] at C
  have hcells : Lib.cellsOf ((rowL N).map fun l => (⟨l.toArray⟩ : ByteArray)) ((textL N).length + 1) = ((rowL N).map sv).toArray := by
    rw [← hrl]
    have := Lib.cellsOf_full ((rowL N).map fun l => (⟨l.toArray⟩ : ByteArray))
    rw [List.length_map] at this
    rw [this, List.map_map]
    rfl
  rw [hcells, List.length_map, ← hrl] at C
  generalize rowL N = R at *
  clear hsp hcells hrl hcount hlen
  go_enter Tryz.func24, Tryz.ntmps24
  go_wp2_with fail
  refine C.mono ?_
  rintro e w' ⟨rfl, rfl⟩
  go_wp2_with fail
  go_ret
  exact ⟨rfl, rfl⟩

/-! ### Swaps -/
def swapG (gs : List PGate) (i j : Nat) : List PGate := match gs[i]?, gs[j]? with
  | some x, some y => (gs.set i y).set j x
  | _, _ => gs
theorem swapG_eq {gs : List PGate} {i j : Nat} {x y : PGate} (hi : gs[i]? = some x) (hj : gs[j]? = some y) : swapG gs i j = (gs.set i y).set j x := by
  unfold swapG; rw [hi, hj]
theorem set_get {α : Type} {l : List α} {i : Nat} {x : α} (h : l[i]? = some x) : l.set i x = l := by
  apply List.ext_getElem?
  intro k
  rw [List.getElem?_set]
  by_cases e : i = k
  · subst e
    have := (List.getElem?_eq_some_iff.1 h).1
    rw [if_pos rfl, if_pos this, h]
  · rw [if_neg e]
theorem swap_perm : ∀ (l : List PGate) (i j : Nat) (x y : PGate), l[i]? = some x → l[j]? = some y → ((l.set i y).set j x).Perm l
  | [], i, j, x, y, hi, hj => by simp at hi
  | a :: l, 0, 0, x, y, hi, hj => by
    injection hi with hi; injection hj with hj
    subst hi hj
    exact List.Perm.refl _
  | a :: l, 0, j + 1, x, y, hi, hj => by
    injection hi with hi
    subst hi
    have hj' : l[j]? = some y := by simpa using hj
    show (y :: l.set j a).Perm (a :: l)
    exact front l j a y hj'
  | a :: l, i + 1, 0, x, y, hi, hj => by
    injection hj with hj
    subst hj
    have hi' : l[i]? = some x := by simpa using hi
    show (x :: l.set i a).Perm (a :: l)
    exact front l i a x hi'
  | a :: l, i + 1, j + 1, x, y, hi, hj => by
    exact List.Perm.cons a (swap_perm l i j x y (by simpa using hi) (by simpa using hj))
where
  front : ∀ (l : List PGate) (j : Nat) (a y : PGate), l[j]? = some y → (y :: l.set j a).Perm (a :: l)
  | [], j, a, y, h => by simp at h
  | b :: l, 0, a, y, h => by
    injection h with h
    subst h
    exact List.Perm.swap a b l
  | b :: l, j + 1, a, y, h => by
    have := front l j a y (by simpa using h)
    exact ((List.Perm.swap b y _).trans (List.Perm.cons b this)).trans (List.Perm.swap a b l)
theorem swapG_perm (gs : List PGate) (i j : Nat) : (swapG gs i j).Perm gs := by
  unfold swapG
  cases hi : gs[i]? with
  | none => exact List.Perm.refl _
  | some x => cases hj : gs[j]? with
    | none => exact List.Perm.refl _
    | some y => exact swap_perm gs i j x y hi hj
/-- The net with its gates in another order. -/
def reN (N : PNet) (gs : List PGate) : PNet := ⟨N.pre, gs, N.out⟩
def firstN (N : PNet) : Nat := 2 + N.pre.length
theorem rowL_split (N : PNet) (gs : List PGate) : ∃ hd : List Bs, hd.length = firstN N ∧ ∀ gs, rowL (reN N gs) = hd ++ (gs.map (fun g => gateB g ++ [10]) ++ [[]]) := by
  refine ⟨([35, 81, 67, 73, 82, 45, 49, 52] :: (N.pre.map blockB ++ [outB N.out])).map (fun l => l ++ [10]), ?_, fun gs => ?_⟩
  · unfold firstN; simp; omega
  · unfold rowL textL reN; simp
theorem rowL_len (N : PNet) (gs : List PGate) : (rowL (reN N gs)).length = firstN N + gs.length + 1 := by
  obtain ⟨hd, h1, h2⟩ := rowL_split N gs
  rw [h2]; simp; omega
theorem rowL_get (N : PNet) {gs : List PGate} {i : Nat} {x : PGate} (h : gs[i]? = some x) : (rowL (reN N gs))[firstN N + i]? = some (gateB x ++ [10]) := by
  obtain ⟨hd, h1, h2⟩ := rowL_split N gs
  have hi := (List.getElem?_eq_some_iff.1 h).1
  rw [h2, List.getElem?_append_right (by omega), h1, Nat.add_sub_cancel_left, List.getElem?_append_left (by simpa using hi), List.getElem?_map, h]
  rfl
theorem rowL_set (N : PNet) (gs : List PGate) (i : Nat) (y : PGate) (hi : i < gs.length) : (rowL (reN N gs)).set (firstN N + i) (gateB y ++ [10]) = rowL (reN N (gs.set i y)) := by
  obtain ⟨hd, h1, h2⟩ := rowL_split N gs
  rw [h2, h2, List.set_append_right _ _ (by omega), h1, Nat.add_sub_cancel_left, List.set_append_left _ _ (by simpa using hi), List.map_set]
theorem rowL_join (N : PNet) (gs : List PGate) : ((rowL (reN N gs)).take (firstN N + gs.length)).flatten = textP (reN N gs) := by
  have e : rowL (reN N gs) = (textL (reN N gs)).map (fun l => l ++ [10]) ++ [[]] := rfl
  have hl : ((textL (reN N gs)).map fun l => l ++ [10]).length = firstN N + gs.length := by unfold textL reN firstN; simp; omega
  rw [e, List.take_left' hl, text_whole]
  unfold whole
  rw [List.flatMap_def]
end Go.Proofs.YtnlobmepajakcaaGreatDoor
