/- A text and the same with spaces, blank lines and comments put in, built from the front; no condition. -/
import Derived.Test.YtnlobmepajakcaaGreatDoorQv
import Derived.Lib.IndexAny
set_option linter.unusedVariables false
set_option linter.unusedSimpArgs false
namespace Go.Proofs.YtnlobmepajakcaaGreatDoor
open Go.RowKit Go.Shelf

theorem SpT.app : ∀ {s t s' t' : Bs}, SpT s t → SpT s' t' → SpT (s ++ s') (t ++ t')
  | _, _, _, _, .nil, h' => h'
  | _, _, _, _, .pun (a := a) (b := b) hc h, h' => by
    have := SpT.pun (a := a) (b := b) hc (h.app h')
    simpa only [List.cons_append, List.append_assoc] using this
  | _, _, _, _, .other hc h10 h, h' => by
    have := SpT.other hc h10 (h.app h')
    simpa only [List.cons_append, List.append_assoc] using this
  | _, _, _, _, .feed (k := k) h, h' => by
    have := SpT.feed (k := k) (h.app h')
    simpa only [List.cons_append, List.append_assoc] using this
theorem SpT.snoc_pun {s t : Bs} (h : SpT s t) {c : UInt8} (hc : isPun c = true) (a b : Nat) : SpT (s ++ [c]) (t ++ (List.replicate a 32 ++ [c] ++ List.replicate b 32)) := by
  have := h.app (SpT.pun (a := a) (b := b) hc .nil)
  simpa using this
theorem SpT.snoc_other {s t : Bs} (h : SpT s t) {c : UInt8} (hc : isPun c = false) (h10 : c ≠ 10) : SpT (s ++ [c]) (t ++ [c]) := h.app (SpT.other hc h10 .nil)
theorem SpT.snoc_feed {s t : Bs} (h : SpT s t) (k : Nat) : SpT (s ++ [10]) (t ++ [10] ++ insX k) := by
  have := h.app (SpT.feed (k := k) .nil)
  simpa using this
theorem ins_len (k : Nat) : (insX k).length ≤ 8 := by
  unfold insX
  repeat' split
  all_goals decide
theorem pun_index (c : UInt8) : decide (0 ≤ Lib.indexByte [40, 41, 44, 61, 45] c) = isPun c := by
  rw [← Lib.contains_iff_indexByte]
  unfold isPun
  simp only [List.contains_cons, List.contains_nil, Bool.or_false]
  rw [Bool.or_assoc, Bool.or_assoc, Bool.or_assoc]
theorem no35 {s : Bs} (h : decide (0 ≤ Lib.indexByte s 35) = false) : ∀ c ∈ s, c ≠ 35 := by
  rw [← Lib.contains_iff_indexByte] at h
  intro c hc e
  subst e
  have : s.contains 35 = true := List.contains_iff_mem.2 hc
  rw [h] at this
  cases this
/-- The five lines, as the program holds them. -/
theorem ins_get (k : Nat) (h : k < 5) : (#[Value.string ⟨#[]⟩, .string ⟨#[10]⟩, .string ⟨#[32, 32, 10]⟩, .string ⟨#[35, 32, 120, 32, 61, 32, 40, 10]⟩, .string ⟨#[35, 10, 10]⟩] : Array Value)[k]? = some (.string ⟨(insX k).toArray⟩) := by
  match k, h with
  | 0, _ => rfl
  | 1, _ => rfl
  | 2, _ => rfl
  | 3, _ => rfl
  | 4, _ => rfl
end Go.Proofs.YtnlobmepajakcaaGreatDoor
