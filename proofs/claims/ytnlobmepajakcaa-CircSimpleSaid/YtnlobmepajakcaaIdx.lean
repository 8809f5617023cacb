/- What slices.Index finds in a set from some place on, what slices.Reverse does to gates, and what circ.simple's inner function says; the conditions: the slice is the rest of a set; the gates lie in the caller's own memory; the literal lies within 65,536. -/
import Derived.Test.YtnlobmepajakcaaWithout
set_option linter.unusedVariables false
set_option linter.unusedSimpArgs false
namespace Go.Proofs.Ytnlobmepajakcaa
open Go.RowKit Go.Shelf

/-- The first free place from o on, counted from o. -/
def freeFrom (S : Nat → Bool) (o : Nat) : Option Nat := (List.range (65537 - o)).find? fun j => !S (o + j)
def freeI (S : Nat → Bool) (o : Nat) : Int := match freeFrom S o with | some k => k | none => -1
theorem index_any (b t o n c : Nat) (S : Nat → Bool) (w : World) (hs : SetAt w b t S) (ho : o + n = 65537) (hc : n ≤ c) (hc2 : c ≤ 65537) :
    Calls Try.prog 62 #[.slice (some ⟨b, o, none⟩) n c, .bool false] w fun e w' => e = .returned (.int .i64 (freeI S o)) ∧ w' = w := by
  have hn : n = 65537 - o := by omega
  go_enter Try.func62, Try.ntmps62
  go_wp2_with fail
  go_loopg [5, 8] n (fun gg _ s8 wr => ∃ k : Nat, k ≤ n ∧ n - k ≤ gg ∧ s8 = .int .i64 k ∧ wr = w ∧ Aside (∀ j, j < k → S (o + j) = true))
  case atStart => exact ⟨0, Nat.zero_le _, by omega, rfl, rfl, fun j hj => by omega⟩
  case round =>
    obtain ⟨k, hk, hg, rfl, rfl, hall⟩ := hrel
    by_cases hlt : k < n
    · have hcell := hs.cell (o + k) (by omega)
      have hltz : (k : Int) < (n : Int) := by omega
      cases hy : S (o + k) with
      | true =>
        rw [hy] at hcell
        have HY := hid hy
        have HA := hid hall
        clear hy hall
        go_wp2_with fail
        go_roundg (n - (k + 1))
        case measure => omega
        case rel =>
          refine ⟨k + 1, by omega, by omega, by go_num, rfl, fun j hj => ?_⟩
          by_cases hjk : j = k
          · rw [hjk]; exact HY.out
          · exact HA.out j (by omega)
      | false =>
        rw [hy] at hcell
        have hr : freeI S o = k := by
          have : freeFrom S o = some k := by
            unfold freeFrom
            rw [List.find?_range_eq_some]
            exact ⟨by simp [hy], by rw [List.mem_range]; omega, fun j hj => by simp [hall j hj]⟩
          unfold freeI; rw [this]
        have HR := hid hr
        clear hy hall hr
        go_wp2_with fail
        go_ret
        exact ⟨ret_int HR.out.symm, rfl⟩
    · have hltz : ¬ (k : Int) < (n : Int) := by omega
      have hr : freeI S o = -1 := by
        have : freeFrom S o = none := by
          unfold freeFrom
          rw [List.find?_eq_none]
          intro j hj
          rw [List.mem_range] at hj
          simp [hall j (by omega)]
        unfold freeI; rw [this]
      have HR := hid hr
      clear hall hr
      go_wp2_with fail
      go_ret
      exact ⟨ret_int HR.out.symm, rfl⟩
/-- The meaning of a literal from those of the variables. -/
def meanL (M : Nat → Int) (l : Int) : Int := if l < 0 then -M (-l).toNat else M l.toNat
set_option maxRecDepth 100000 in
theorem mean_any (b t : Nat) (M : Nat → Int) (l : Int) (w : World) (hm : MeanAt w b t M) (h1 : -65536 ≤ l) (h2 : l ≤ 65536) (hb : ∀ i, -65537 ≤ M i ∧ M i ≤ 65537) :
    Calls Try.prog 87 (#[] ++ #[.int .i64 l] ++ #[.pointer (some ⟨b, 0, none⟩)]) w fun e w' => e = .returned (.int .i64 (meanL M l)) ∧ w' = w := by
  by_cases h : l < 0
  · obtain ⟨k, hk⟩ := Int.eq_ofNat_of_zero_le (show 0 ≤ -l by omega)
    have hc := hm.cell k (by omega)
    have hbk := hb k
    have hr : meanL M l = -M k := by unfold meanL; rw [if_pos h]; congr 2; omega
    have h3 : (k : Int) < 65537 := by omega
    have h4 : IntKind.i64.wrap (-l) = (k : Int) := by rw [hk]; exact IntWalk.i64_in _ (by omega)
    have HR := hid hr
    clear hr hm hb hk
    generalize M k = m at hc hbk HR
    have h5 : IntKind.i64.wrap (-m) = -m := IntWalk.i64_in _ (by omega)
    have h0 : 0 ≤ (k : Int) := by omega
    clear hbk h1 h2
    go_enter Try.func87, Try.ntmps87
    go_wp2
    go_ret
    exact ⟨ret_int HR.out.symm, rfl⟩
  · obtain ⟨k, rfl⟩ := Int.eq_ofNat_of_zero_le (show 0 ≤ l by omega)
    have hc := hm.cell k (by omega)
    have hr : meanL M (k : Int) = M k := by unfold meanL; rw [if_neg h]; rfl
    have h3 : (k : Int) < 65537 := by omega
    have HR := hid hr
    clear hr hm hb
    generalize M k = m at hc HR
    go_enter Try.func87, Try.ntmps87
    go_wp2
    go_ret
    exact ⟨ret_int HR.out.symm, rfl⟩
end Go.Proofs.Ytnlobmepajakcaa
