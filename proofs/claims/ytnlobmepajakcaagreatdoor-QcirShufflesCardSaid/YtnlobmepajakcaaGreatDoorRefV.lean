/- What the document's Normal does; no condition. -/
import Derived.Test.YtnlobmepajakcaaGreatDoorRefM
set_option linter.unusedVariables false
set_option linter.unusedSimpArgs false
namespace Go.Proofs.YtnlobmepajakcaaGreatDoor
open Go.RowKit Go.Shelf

theorem absR_no {l : Int} (h : varB (absR l) = false) : absI l = 0 := by
  have h2 : ¬ 1 ≤ absN l := fun e => by rw [absR_var.2 e] at h; cases h
  rw [absI_N]; omega
theorem absR_yes {l : Int} (h : varB (absR l) = true) : absR l = absI l ∧ 1 ≤ absI l := by
  have h2 := absR_var.1 h
  rw [absR_eq h2, absI_N]
  exact ⟨rfl, by omega⟩
set_option maxRecDepth 100000 in
set_option maxHeartbeats 2000000 in
theorem NormalR_any (v : Value) (xs : List Int) (w : World) (h : IntsAt w v xs) :
    Calls Tryz.prog 22 #[v] w fun e w' => e = .returned (.bool (normFrom 0 xs)) ∧ Below w.heap.size w w' := by
  obtain ⟨A, c, rfl, hlc, hcm⟩ := h.form
  have hlen : xs.length ≤ 9223372036854775807 := by omega
  go_enter Tryz.func22, Tryz.ntmps22
  go_wp2_with fail
  go_loopg [3] xs.length (fun gg s3 wr => ∃ (j : Nat) (last : Int), j ≤ xs.length ∧ xs.length - j ≤ gg ∧ s3 = .int .i64 j ∧ Below w.heap.size w wr ∧ 0 ≤ last ∧ Aside (j = 0 → last = 0) ∧ Aside (∀ m y, j = m + 1 → xs[m]? = some y → last = absR y) ∧ Rem (normFrom 0 xs) (normFrom last (xs.drop j)))
  case atStart => exact ⟨0, 0, Nat.zero_le _, by omega, rfl, Below.refl _ _, by omega, fun _ => rfl, (fun m y e => by omega), ⟨rfl⟩⟩
  case round =>
    obtain ⟨j, last, hj, hg, rfl, hB, hl0, hz, hy, HA⟩ := hrel
    by_cases hlt : j < xs.length
    · obtain ⟨x, hx, hm, hd⟩ := nth hlt
      obtain ⟨b, off, rfl, hcx, hx64⟩ := (h.keep (keeps_below hB)).at_ j x hx
      have hltz : (j : Int) < (xs.length : Int) := by omega
      have HD := hid hd
      have HZ := hid hz
      have HYY := hid hy
      have HX := hid hx
      clear hd hz hx
      have CV := variable_any (absR x)
      cases hv : varB (absR x) with
      | false =>
        rw [hv] at CV
        have e : normFrom 0 xs = false := by rw [HA.out, HD.out, normFrom, if_pos (by rw [absR_no hv]; exact hl0)]
        have HE := hid e
        clear e hv hy
        go_wp2_with fail
        go_quiet (first | (go_at_call 54; exact Calls.quiet_of_same (absR_any _ _ (by assumption))) | (go_at_call 51; exact Calls.quiet_of_same (CV _)))
        go_wp2
        go_ret
        exact ⟨ret_bool (by rw [HE.out]), below_drewN hB _⟩
      | true =>
        rw [hv] at CV
        obtain ⟨ha1, ha2⟩ := absR_yes hv
        have HA1 := hid ha1
        have HA2 := hid ha2
        clear hv ha1 ha2
        rcases Nat.eq_zero_or_pos j with h0 | h0
        · have hk0 : decide (0 < j) = false := by simp; omega
          have hl := HZ.out h0
          have e : normFrom 0 xs = normFrom (absI x) (xs.drop (j + 1)) := by rw [HA.out, HD.out, normFrom, if_neg (by have := HA2.out; omega)]
          have HE := hid e
          clear e hy h0 hl
          go_wp2_with fail
          go_quiet (first | (go_at_call 54; exact Calls.quiet_of_same (absR_any _ _ (by assumption))) | (go_at_call 51; exact Calls.quiet_of_same (CV _)))
          go_wp2
          go_roundg (xs.length - (j + 1))
          case measure => omega
          case rel => exact ⟨j + 1, absI x, by omega, by omega, by go_num, below_drewN hB _, by have := HA2.out; omega, (fun e => by omega), (fun m y e hmy => by
            have : m = j := by omega
            subst this
            rw [HX.out] at hmy; injection hmy with hmy; rw [← hmy]; exact HA1.out.symm), ⟨HE.out⟩⟩
        · obtain ⟨y, hyx, hym, -⟩ := nth (show j - 1 < xs.length by omega)
          obtain ⟨b', off', eb, hcy, hy64⟩ := (h.keep (keeps_below hB)).at_ (j - 1) y hyx
          cases eb
          have hlast := HYY.out (j - 1) y (by omega) hyx
          have hk0 : decide (0 < j) = true := by simp; omega
          have hw1 : IntKind.i64.wrap ((j : Int) - 1) = (j : Int) - 1 := IntWalk.i64_in _ (by omega)
          have hm0 : 1 ≤ (j : Int) := by omega
          have hm1 : (j : Int) - 1 < (xs.length : Int) := by omega
          have hm2 : ((j : Int) - 1).toNat = j - 1 := by omega
          have H0 := hid h0
          by_cases hle : absR x ≤ absR y
          · have e : normFrom 0 xs = false := by rw [HA.out, HD.out, normFrom, if_pos (by rw [← HA1.out, hlast]; exact hle)]
            have HE := hid e
            have hle2 : decide (absR x ≤ absR y) = true := decide_eq_true hle
            clear e hy hlast hyx hym h0 hle
            go_wp2_with fail
            go_quiet (first | (go_at_call 54; exact Calls.quiet_of_same (absR_any _ _ (by assumption))) | (go_at_call 51; exact Calls.quiet_of_same (CV _)))
            go_wp2
            go_ret
            exact ⟨ret_bool (by rw [HE.out]), below_drewN hB _⟩
          · have e : normFrom 0 xs = normFrom (absI x) (xs.drop (j + 1)) := by rw [HA.out, HD.out, normFrom, if_neg (by rw [← HA1.out, hlast]; exact hle)]
            have HE := hid e
            have hle2 : decide (absR x ≤ absR y) = false := decide_eq_false hle
            clear e hy hlast hyx hym h0 hle
            go_wp2_with fail
            go_quiet (first | (go_at_call 54; exact Calls.quiet_of_same (absR_any _ _ (by assumption))) | (go_at_call 51; exact Calls.quiet_of_same (CV _)))
            go_wp2
            go_roundg (xs.length - (j + 1))
            case measure => omega
            case rel => exact ⟨j + 1, absI x, by omega, by omega, by go_num, below_drewN hB _, by have := HA2.out; omega, (fun e => by omega), (fun m y e hmy => by
              have : m = j := by omega
              subst this
              rw [HX.out] at hmy; injection hmy with hmy; rw [← hmy]; exact HA1.out.symm), ⟨HE.out⟩⟩
    · have hltz : ¬ (j : Int) < (xs.length : Int) := by omega
      have e : normFrom 0 xs = true := by rw [HA.out, List.drop_eq_nil_of_le (by omega)]; rfl
      have HE := hid e
      clear e hz hy
      go_wp2_with fail
      go_ret
      exact ⟨ret_bool (by rw [HE.out]), hB⟩
end Go.Proofs.YtnlobmepajakcaaGreatDoor
