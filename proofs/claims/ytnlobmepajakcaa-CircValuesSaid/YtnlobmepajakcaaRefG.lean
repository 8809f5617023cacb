/- What the reference's gate does; the conditions: the gate reads as data, has as many literals as its kind wants, and they are literals. -/
import Derived.Test.YtnlobmepajakcaaRefV
set_option linter.unusedVariables false
set_option linter.unusedSimpArgs false
namespace Go.Proofs.Ytnlobmepajakcaa
open Go.RowKit Go.Shelf

set_option maxHeartbeats 2000000 in
theorem gateR_any (b t : Nat) (V : Nat → Bool) (x kind : Int) (vi : Value) (xs : List Int) (w : World) (hS : SetAt w b t V) (h : IntsAt w vi xs) (hk : shapedB kind xs.length = true) (hl : ∀ l ∈ xs, 1 ≤ absN l) :
    Calls Try.prog 95 #[.slice (some ⟨b, 0, none⟩) 65537 65537, .agg #[.int .i64 x, .int .u8 kind, vi]] w fun e w' => e = .returned (.bool (gateV V kind xs)) ∧ Below w.heap.size w w' := by
  obtain ⟨A, c, rfl, hlc, hcm⟩ := h.form
  obtain ⟨w1, hw1, hc1, -, z1, hB1, q1⟩ := new_block w #[.int .i64 x, .int .u8 kind, .slice A xs.length c] 70
  have k1 : w1.cell? ⟨w.heap.size, 1, none⟩ = some (.int .u8 kind) := hc1 1 _ rfl
  have k2 : w1.cell? ⟨w.heap.size, 2, none⟩ = some (.slice A xs.length c) := hc1 2 _ rfl
  have h1 := h.keep (keeps_below hB1)
  have hS1 := hS.below hB1
  have CH := fun l W hl => holdsR_any b t V l W (hS1.below hl)
  have CH' : ∀ l ∈ xs, ∀ W, Below w1.heap.size w1 W → Calls Try.prog 63 #[.slice (some ⟨b, 0, none⟩) 65537 65537, .int .i64 l] W fun e w' => e = .returned (.bool (holdsV V l)) ∧ w' = W := fun l hlm W hW => holdsR_any b t V l W (hS1.below hW) (hl l hlm)
  clear CH hc1
  unfold shapedB at hk
  by_cases g1 : kind = 1
  · subst g1
    have eV : gateV V 1 xs = !xs.any fun l => !holdsV V l := rfl
    rw [eV]
    clear eV hk
    go_enter Try.func95, Try.ntmps95
    go_wp2_with fail
    go_loopg [5] xs.length (fun gg s5 wr => ∃ j : Nat, j ≤ xs.length ∧ xs.length - j ≤ gg ∧ s5 = .int .i64 j ∧ wr = w1 ∧ Rem (xs.any fun l => !holdsV V l) ((xs.drop j).any fun l => !holdsV V l))
    case atStart => exact ⟨0, Nat.zero_le _, by omega, rfl, rfl, ⟨rfl⟩⟩
    case round =>
      obtain ⟨j, hj, hg, rfl, rfl, HA⟩ := hrel
      by_cases hlt : j < xs.length
      · obtain ⟨y, hy, hym, hd⟩ := nth hlt
        obtain ⟨b2, o2, rfl, hcy, -⟩ := h1.at_ j y hy
        have hltz : (j : Int) < (xs.length : Int) := by omega
        have HD := hid hd
        have CY := CH' y hym _ (Below.refl _ _)
        clear hd hy hym
        cases hv : holdsV V y with
        | false =>
          rw [hv] at CY
          have HV := hid hv
          clear hv
          go_wp2_with (go_at_call 63; refine CY.mono ?_; rintro e w' ⟨rfl, rfl⟩)
          go_ret
          exact ⟨ret_bool (by rw [HA.out, HD.out, List.any_cons, HV.out]; rfl), hB1⟩
        | true =>
          rw [hv] at CY
          have HV := hid hv
          clear hv
          go_wp2_with (go_at_call 63; refine CY.mono ?_; rintro e w' ⟨rfl, rfl⟩)
          go_roundg (xs.length - (j + 1))
          case measure => omega
          case rel => exact ⟨j + 1, by omega, by omega, by go_num, rfl, ⟨by rw [HA.out, HD.out, List.any_cons, HV.out]; rfl⟩⟩
      · have hltz : ¬ (j : Int) < (xs.length : Int) := by omega
        have e : (xs.any fun l => !holdsV V l) = false := by rw [HA.out, List.drop_eq_nil_of_le (by omega)]; rfl
        have HE := hid e
        clear e
        go_wp2_with fail
        go_ret
        exact ⟨ret_bool (by rw [HE.out]; rfl), hB1⟩
  · by_cases g2 : kind = 2
    · subst g2
      have eV : gateV V 2 xs = xs.any fun l => holdsV V l := rfl
      rw [eV]
      clear eV hk g1
      go_enter Try.func95, Try.ntmps95
      go_wp2_with fail
      go_loopg [6] xs.length (fun gg s6 wr => ∃ j : Nat, j ≤ xs.length ∧ xs.length - j ≤ gg ∧ s6 = .int .i64 j ∧ wr = w1 ∧ Rem (xs.any fun l => holdsV V l) ((xs.drop j).any fun l => holdsV V l))
      case atStart => exact ⟨0, Nat.zero_le _, by omega, rfl, rfl, ⟨rfl⟩⟩
      case round =>
        obtain ⟨j, hj, hg, rfl, rfl, HA⟩ := hrel
        by_cases hlt : j < xs.length
        · obtain ⟨y, hy, hym, hd⟩ := nth hlt
          obtain ⟨b2, o2, rfl, hcy, -⟩ := h1.at_ j y hy
          have hltz : (j : Int) < (xs.length : Int) := by omega
          have HD := hid hd
          have CY := CH' y hym _ (Below.refl _ _)
          clear hd hy hym
          cases hv : holdsV V y with
          | true =>
            rw [hv] at CY
            have HV := hid hv
            clear hv
            go_wp2_with (go_at_call 63; refine CY.mono ?_; rintro e w' ⟨rfl, rfl⟩)
            go_ret
            exact ⟨ret_bool (by rw [HA.out, HD.out, List.any_cons, HV.out]; rfl), hB1⟩
          | false =>
            rw [hv] at CY
            have HV := hid hv
            clear hv
            go_wp2_with (go_at_call 63; refine CY.mono ?_; rintro e w' ⟨rfl, rfl⟩)
            go_roundg (xs.length - (j + 1))
            case measure => omega
            case rel => exact ⟨j + 1, by omega, by omega, by go_num, rfl, ⟨by rw [HA.out, HD.out, List.any_cons, HV.out]; rfl⟩⟩
        · have hltz : ¬ (j : Int) < (xs.length : Int) := by omega
          have e : (xs.any fun l => holdsV V l) = false := by rw [HA.out, List.drop_eq_nil_of_le (by omega)]; rfl
          have HE := hid e
          clear e
          go_wp2_with fail
          go_ret
          exact ⟨ret_bool (by rw [HE.out]), hB1⟩
    · by_cases g3 : kind = 3
      · subst g3
        simp only [if_neg g1, if_neg g2, if_true, decide_eq_true_eq] at hk
        obtain ⟨y, z, rfl⟩ : ∃ y z, xs = [y, z] := by
          match xs, hk with
          | [y, z], _ => exact ⟨y, z, rfl⟩
        obtain ⟨b2, o2, rfl, c0, -⟩ := h1.at_ 0 y rfl
        obtain ⟨b3, o3, e3, c1, -⟩ := h1.at_ 1 z rfl
        cases e3
        rw [Nat.add_zero] at c0
        have hw1' : w.alloc (.cells #[.int .i64 x, .int .u8 3, .slice (some ⟨b2, o2, none⟩) 2 c] 70) = w1 := hw1
        have k2' : w1.cell? ⟨w.heap.size, 2, none⟩ = some (.slice (some ⟨b2, o2, none⟩) 2 c) := k2
        clear hw1 k2
        have CG : ∀ l ∈ [y, z], ∀ p, Calls Try.prog 63 #[.slice (some ⟨b, 0, none⟩) 65537 65537, .int .i64 l] (since w1 p) fun e w' => e = .returned (.bool (holdsV V l)) ∧ Below (since w1 p).heap.size (since w1 p) w' := fun l hlm p =>
          (CH' l hlm (since w1 p) (since_below w1 p)).mono (fun e w' h => ⟨h.1, by rw [h.2]; exact Below.refl _ _⟩)
        have s2 := fun p => cell_since k2' p
        have s0 := fun p => cell_since c0 p
        have s1 := fun p => cell_since c1 p
        have eV : gateV V 3 [y, z] = (holdsV V y != holdsV V z) := rfl
        rw [eV]
        clear eV g1 g2 CH'
        go_enter Try.func95, Try.ntmps95
        go_wp2_with fail
        refine region_quiet (by kernel_rfl) (by kernel_rfl) ?_
        repeat (first | go_big_quiet_step ((go_at_call 63; exact calls_since (CG _ (by simp) _))) | quiet_step ((go_at_call 63; exact calls_since (CG _ (by simp) _))))
        refine wpQuiet_nil ?_
        rintro W2 ⟨pw, hW2⟩
        have hB2 : Below w1.heap.size w1 W2 := by rw [hW2]; exact since_below w1 pw
        go_wp2_with fail
        go_ret
        exact ⟨rfl, below_then hB1 hB1.size hB2⟩
      · by_cases g4 : kind = 4
        · subst g4
          simp only [if_neg g1, if_neg g2, if_neg g3, if_true, decide_eq_true_eq] at hk
          obtain ⟨y, z, u, rfl⟩ : ∃ y z u, xs = [y, z, u] := by
            match xs, hk with
            | [y, z, u], _ => exact ⟨y, z, u, rfl⟩
          obtain ⟨b2, o2, rfl, c0, -⟩ := h1.at_ 0 y rfl
          obtain ⟨b3, o3, e3, c1, -⟩ := h1.at_ 1 z rfl
          cases e3
          obtain ⟨b4, o4, e4, c2, -⟩ := h1.at_ 2 u rfl
          cases e4
          rw [Nat.add_zero] at c0
          have hw1' : w.alloc (.cells #[.int .i64 x, .int .u8 4, .slice (some ⟨b2, o2, none⟩) 3 c] 70) = w1 := hw1
          have k2' : w1.cell? ⟨w.heap.size, 2, none⟩ = some (.slice (some ⟨b2, o2, none⟩) 3 c) := k2
          clear hw1 k2
          have CY := CH' y (by simp) w1 (Below.refl _ _)
          have CZ := CH' z (by simp) w1 (Below.refl _ _)
          have CU := CH' u (by simp) w1 (Below.refl _ _)
          have eV : gateV V 4 [y, z, u] = if holdsV V y then holdsV V z else holdsV V u := rfl
          rw [eV]
          clear eV g1 g2 g3 CH'
          cases hy : holdsV V y with
          | true =>
            rw [hy] at CY
            clear hy
            go_enter Try.func95, Try.ntmps95
            go_wp2_with fail
            refine CY.mono ?_
            rintro e w2 ⟨rfl, rfl⟩
            go_wp2_with fail
            refine CZ.mono ?_
            rintro e w3 ⟨rfl, rfl⟩
            go_wp2_with fail
            go_ret
            exact ⟨rfl, hB1⟩
          | false =>
            rw [hy] at CY
            clear hy
            go_enter Try.func95, Try.ntmps95
            go_wp2_with fail
            refine CY.mono ?_
            rintro e w2 ⟨rfl, rfl⟩
            go_wp2_with fail
            refine CU.mono ?_
            rintro e w3 ⟨rfl, rfl⟩
            go_wp2_with fail
            go_ret
            exact ⟨rfl, hB1⟩
        · rw [if_neg g1, if_neg g2, if_neg g3, if_neg g4] at hk; cases hk
end Go.Proofs.Ytnlobmepajakcaa
