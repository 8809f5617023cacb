/- What slices.Reverse does to gates in a call's own memory; no condition but what is asked. -/
import Derived.Shelf.SlicesQ.Reverse
import Derived.Ground.SlgnProg
import Derived.Test.YtnlobmepajakcaaOwn
set_option linter.unusedVariables false
set_option linter.unusedSimpArgs false
namespace Go.Proofs.Ytnlobmepajakcaa
open Go.RowKit Go.Shelf

def revRen : Ren := { f := fun | 35 => 89 | n => n, t := fun | 22 => 23 | 23 => 70 | n => n, g := fun n => n }
theorem revLays : SlLaysE0.n35 Try.prog revRen := {
  mixed := by kernel_rfl
  f35 := ⟨Try.f89.name, by decide, Try.func89.trans (congrArg some (by kernel_rfl))⟩
  t0 := Try.underlying0, a0 := Try.isAgg0, z0 := Try.sizeOf0, v0 := Try.zeroValue0, t3 := Try.underlying3
  a3 := Try.isAgg3, z3 := Try.sizeOf3, v3 := Try.zeroValue3, t4 := Try.underlying4, a4 := Try.isAgg4, z4 := Try.sizeOf4
  v4 := Try.zeroValue4, t22 := Try.underlying23, a22 := Try.isAgg23, z22 := Try.sizeOf23, v22 := Try.zeroValue23 }
abbrev GT := Int × Int × Option Addr × Nat × Nat
def enc3 (x : GT) : List Value := [.int .i64 x.1, .int .u8 x.2.1, .slice x.2.2.1 x.2.2.2.1 x.2.2.2.2]
def gcells (ts : List GT) : List Value := ts.flatMap enc3
theorem gcells_length : ∀ ts : List GT, (gcells ts).length = ts.length * 3
  | [] => rfl
  | t :: ts => by
    have h := gcells_length ts
    unfold gcells at h ⊢
    rw [List.flatMap_cons, List.length_append, h]
    simp [enc3]; omega
theorem gcells_snoc (ts : List GT) (t : GT) : gcells (ts ++ [t]) = gcells ts ++ enc3 t := by simp [gcells]
theorem gcells_get : ∀ (ts : List GT) (i r : Nat) (x : GT), ts[i]? = some x → r < 3 → (gcells ts)[i * 3 + r]? = (enc3 x)[r]?
  | [], _, _, _, h, _ => by simp at h
  | t :: ts, 0, r, x, h, hr => by
    injection h with h; subst h
    unfold gcells
    rw [List.flatMap_cons, Nat.zero_mul, Nat.zero_add, List.getElem?_append_left (by simp [enc3]; omega)]
  | t :: ts, i + 1, r, x, h, hr => by
    have ih := gcells_get ts i r x (by simpa using h) hr
    unfold gcells at ih ⊢
    rw [List.flatMap_cons, List.getElem?_append_right (by simp [enc3]; omega)]
    have e : (i + 1) * 3 + r - (enc3 t).length = i * 3 + r := by simp [enc3]; omega
    rw [e]; exact ih
theorem flat_gcells (ts : List GT) : Go.Sort.flatK enc3 3 ts.toArray = (gcells ts).toArray := by
  apply Array.ext_getElem?
  intro t
  unfold Go.Sort.flatK
  by_cases ht : t < ts.length * 3
  · obtain ⟨x, hx⟩ : ∃ x, ts[t / 3]? = some x := ⟨_, List.getElem?_eq_getElem (by omega)⟩
    have h1 := gcells_get ts (t / 3) (t % 3) x hx (Nat.mod_lt _ (by omega))
    rw [show t / 3 * 3 + t % 3 = t by omega] at h1
    have h2 : ts.toArray[t / 3]! = x := by simp [hx]
    have h3 : t % 3 < 3 := Nat.mod_lt _ (by omega)
    have e0 : (gcells ts).toArray[t]? = (gcells ts)[t]? := by simp
    rw [e0, h1, Array.getElem?_map, Array.getElem?_range, if_pos (by simpa using ht), Option.map_some, h2]
    rw [getElem!_pos (enc3 x) (t % 3) (by simp [enc3]; omega), List.getElem?_eq_getElem]
  · rw [Array.getElem?_eq_none (by simp; omega), Array.getElem?_eq_none (by simp [gcells_length]; omega)]
set_option maxHeartbeats 1000000 in
theorem reverse_any (base g n cap : Nat) (ts : List GT) (w : World) (hO : w.ownsRow base 70 3 (.slice (some ⟨g, 0, none⟩) n cap) n (gcells ts)) (hn : ts.length = n) :
    Calls Try.prog 89 #[.slice (some ⟨g, 0, none⟩) n cap] w fun e w' => e = .returned (.tuple #[]) ∧ w.grownBy w' (some g) ∧ w'.ownsRow base 70 3 (.slice (some ⟨g, 0, none⟩) n cap) n (gcells ts.reverse) := by
  obtain ⟨hl, h | ⟨g', cap', cur, e, hb, hh, hcap, hmax, hcs, htk⟩⟩ := hO
  · cases h.1
  cases e
  have hsz : ts.toArray.size = n := by simpa using hn
  have hcell : ∀ j, j < n * 3 → cur[j]? = (gcells ts)[j]? := fun j hj => by
    rw [← htk, List.getElem?_take, if_pos hj, Array.getElem?_toList]
  have hH : Go.Sort.HoldsK enc3 3 w g 0 ts.toArray := by
    unfold Go.Sort.HoldsK
    rw [flat_gcells]
    intro j hj
    rw [List.size_toArray, gcells_length, hn] at hj
    rw [Nat.zero_add]
    refine ⟨?_, frozen_of_row _ _ _ _ _ hh⟩
    rw [cell_of_row _ _ _ _ _ _ hh, hcell j hj]
    have : j < (gcells ts).length := by rw [gcells_length, hn]; exact hj
    rw [List.getElem?_eq_getElem this]
    simp [this]
  have R := AnyQ.slices_Reverse revLays 3 Try.isAgg70 Try.sizeOf70 enc3 (fun x => rfl) (fun x v hv => by simp [enc3] at hv; rcases hv with rfl | rfl | rfl <;> rfl) g 0 cap ts.toArray w hH (by rw [hsz]; simp only [maxLen] at hmax; omega)
  rw [hsz] at R
  refine R.mono ?_
  rintro e w' ⟨rfl, m, rfl⟩
  have hlt : g < w.heap.size := (Array.getElem?_eq_some_iff.1 hh).1
  refine ⟨rfl, ⟨rfl, rfl, rfl, by simp [Go.Sort.putRowK, Go.Sort.ahead], fun k hk hne => ?_⟩, by rw [gcells_length, List.length_reverse, hn], .inr ⟨g, cap, Go.Sort.putCells id 0 (gcells ts.reverse).toArray cur, rfl, hb, ?_, hcap, hmax, ?_, ?_⟩⟩
  · unfold Go.Sort.putRowK Go.Sort.putRow Go.Sort.mapBlock Go.Sort.ahead
    rw [Array.getElem?_modify, if_neg (by intro e; exact hne (by rw [e]))]
  · unfold Go.Sort.putRowK Go.Sort.putRow Go.Sort.mapBlock Go.Sort.ahead
    rw [Array.getElem?_modify, if_pos rfl]
    show (w.heap[g]?).map _ = _
    have e0 : ts.toArray.reverse = ts.reverse.toArray := by simp
    rw [hh, e0, flat_gcells]
    rfl
  · unfold Go.Sort.putCells; rw [Array.size_mapIdx]; exact hcs
  · apply List.ext_getElem?
    intro j
    rw [List.getElem?_take]
    by_cases hj : j < n * 3
    · have hj2 : j < (gcells ts.reverse).length := by rw [gcells_length, List.length_reverse, hn]; exact hj
      have hj3 : j < cur.size := by rw [hcs]; exact Nat.lt_of_lt_of_le hj (Nat.mul_le_mul_right _ hcap)
      rw [if_pos hj, Array.getElem?_toList]
      unfold Go.Sort.putCells
      rw [Array.getElem?_mapIdx, Array.getElem?_eq_getElem hj3, Option.map_some, if_pos ⟨Nat.zero_le _, by simpa using hj2⟩]
      simp [hj2]
    · rw [if_neg hj, List.getElem?_eq_none (by rw [gcells_length, List.length_reverse, hn]; omega)]
end Go.Proofs.Ytnlobmepajakcaa
