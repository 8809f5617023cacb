/- The builder's String in a world where more is to be kept than below the builder: no cell turns; no condition. -/
import Derived.Test.YtnlobmepajakcaaGreatDoorSpC
set_option linter.unusedVariables false
set_option linter.unusedSimpArgs false
namespace Go.Proofs.YtnlobmepajakcaaGreatDoor
open Go.RowKit Go.Shelf

theorem keeps_freeze (w : World) (p : Addr) (n : Nat) : Keeps w (w.freeze p n) := by
  intro a v h
  unfold World.freeze
  split
  · exact h
  · unfold World.cell? at h ⊢
    simp only [Array.getElem?_modify]
    by_cases hp : p.block = a.block
    · rw [if_pos hp]
      generalize w.heap[a.block]? = q at h ⊢
      cases q with
      | none => cases h
      | some o =>
        cases o with
        | cells c t fz => obtain ⟨lo, hi⟩ := fz; exact h
        | _ => cases h
    · rw [if_neg hp]; exact h
set_option maxRecDepth 100000 in
set_option maxHeartbeats 1000000 in
theorem stringS_any (b : Nat) (l : Bs) (w : World) (h : Bld b b l w) (h0 : l = [] → w.heap[b]? = some (.cells #[.pointer none, .slice none 0 0] 27 (0, 0))) :
    Calls Tryz.prog 18 #[.pointer (some ⟨b, 0, none⟩)] w fun e w' => e = .returned (.string ⟨l.toArray⟩) ∧ Keeps w w' ∧ Below b w w' := by
  have mixed : Tryz.prog.follows Departure.mixedOrders = true := by kernel_rfl
  by_cases hl : l = []
  · subst hl
    have hb := h0 rfl
    have c1 : w.drew.cell? ⟨b, 1, none⟩ = some (.slice none 0 0) := cell_row (w := w.drew) hb rfl
    have hSD : (Builtin.unsafeSliceData_ #[22] 92 #[.slice none 0 0]).run Tryz.prog w.drew = .ok (.pointer none) w.drew := rfl
    have hUS : (Builtin.unsafeString_ #[92, 3] 9 #[.pointer none, .int .i64 0]).run Tryz.prog w.drew = .ok (.string .empty) w.drew := Lib.run_unsafeString_none w.drew _ _ _ none
    go_enter Tryz.func18, Tryz.ntmps18
    go_wp2
    go_region_o
    all_goals (go_wp2; go_ret; exact ⟨rfl, Keeps.refl _, (Below.refl _ w).drew⟩)
  · obtain ⟨p, hB, v, hbk, hown, hne⟩ : ∃ p, Lib.BuilderAtF 27 5 b b p (Lib.byteCells l) w := by
      rcases h with h | h
      · exact ⟨_, h⟩
      · exact ⟨_, h⟩
    have hl0 : l.length ≠ 0 := by simpa using hl
    rw [Lib.byteCells_length] at hown
    obtain ⟨g, cap, cur, fz, rfl, hbg, hg, hfz, hnc, hcm, hcs, htake⟩ : ∃ g cap cur fz, v = .slice (some ⟨g, 0, none⟩) l.length cap ∧ b ≤ g ∧ w.heap[g]? = some (.cells cur 5 fz) ∧ fz.2 ≤ l.length * 1 ∧ l.length ≤ cap ∧ cap ≤ maxLen ∧ cur.size = cap * 1 ∧ cur.toList.take (l.length * 1) = Lib.byteCells l := by
      rcases hown.2 with ⟨_, hz⟩ | ⟨g, cap, cur, fz, hv, r⟩
      · exact absurd hz hl0
      · exact ⟨g, cap, cur, fz, hv, r⟩
    have c1 : w.drew.cell? ⟨b, 1, none⟩ = some (.slice (some ⟨g, 0, none⟩) l.length cap) := cell_row (w := w.drew) hbk rfl
    have hSD : (Builtin.unsafeSliceData_ #[22] 92 #[.slice (some ⟨g, 0, none⟩) l.length cap]).run Tryz.prog w.drew = .ok (.pointer (some ⟨g, 0, none⟩)) w.drew := Lib.run_unsafeSliceData_row _ _ _ _ _ _ (by omega)
    have hUS : (Builtin.unsafeString_ #[92, 3] 9 #[.pointer (some ⟨g, 0, none⟩), .int .i64 l.length]).run Tryz.prog w.drew = .ok (.string ⟨l.toArray⟩) (w.drew.freeze ⟨g, 0, none⟩ l.length) := by
      refine Lib.run_unsafeString_row w.drew 92 3 9 5 (by kernel_rfl) (by kernel_rfl) g cur.size (by have hg' : w.drew.heap[g]? = some (.cells cur 5 fz) := hg; simp [World.shape?, hg']) l hl (by omega) (by unfold maxLen at hcm; omega) ?_
      intro j x hx
      have := hown.cells (g := g) rfl j (.int .u8 x.toNat) (by simp [Lib.byteCells, hx])
      exact this
    have hK : Keeps w (w.drew.freeze ⟨g, 0, none⟩ l.length) := keeps_freeze w.drew _ _
    have hBf : Below b w (w.drew.freeze ⟨g, 0, none⟩ l.length) := Lib.below_freeze (Below.drew (Below.refl b w)) (p := ⟨g, 0, none⟩) hbg _
    clear h h0 hl hl0 hown hfz hnc hcm hcs htake hbk hg hne
    go_enter Tryz.func18, Tryz.ntmps18
    go_wp2
    go_region_o
    all_goals (go_wp2; go_ret; exact ⟨rfl, hK, hBf⟩)
end Go.Proofs.YtnlobmepajakcaaGreatDoor
