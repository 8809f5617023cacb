/- What the reference's reached does: the set of what is reached; the conditions: the gates read as data, their variables and literals are variables and literals. -/
import Derived.Test.YtnlobmepajakcaaRefM
import Derived.Test.YtnlobmepajakcaaApp
import Derived.Test.YtnlobmepajakcaaSemO
set_option linter.unusedVariables false
set_option linter.unusedSimpArgs false
namespace Go.Proofs.Ytnlobmepajakcaa
open Go.RowKit Go.Shelf

theorem setOf_one (x : Nat) : setOf [(x : Int)] = upd noS x true := by
  have := setOf_snoc [] x
  rw [List.nil_append] at this
  rw [this, show setOf [] = noS from by funext i; simp [setOf, noS]]
theorem reach_take {gs : List PGate} {m : Nat} {g : PGate} (h : gs[m]? = some g) : (gs.take (m + 1)).reverse = g :: (gs.take m).reverse := by
  rw [take_snoc h, List.reverse_append]; rfl
set_option maxRecDepth 100000 in
set_option maxHeartbeats 2000000 in
theorem reachedR_any (v : Value) (gs : List PGate) (lit : Int) (w : World) (h : GatesAt w v gs) (h64 : I64 lit) (hl : 1 ≤ absN lit) (hv : ∀ g ∈ gs, 1 ≤ g.var ∧ g.var ≤ 65536) (hi : ∀ g ∈ gs, ∀ l ∈ g.ins, 1 ≤ absN l) :
    Calls Try.prog 76 #[v, .int .i64 lit] w fun e w' => ∃ b, e = .returned (.slice (some ⟨b, 0, none⟩) 65537 65537) ∧ SetAt w' b 4 (reachT (upd noS (absN lit) true) gs.reverse) ∧ Below w.heap.size w w' ∧ w.heap.size ≤ b := by
  obtain ⟨A, c, rfl, hlc, hcm⟩ := h.form
  have CA := absR_any lit w h64
  rw [absR_eq hl] at CA
  have hq := absN_lt lit
  obtain ⟨q, hqq⟩ : ∃ q, absN lit = q := ⟨_, rfl⟩
  rw [hqq] at CA hq
  obtain ⟨w1, hw1, -, -, z1, hB1, q1⟩ := new_block w #[.int .i64 (q : Int)] 3
  have C50 := marks_any (.slice (some ⟨w.heap.size, 0, none⟩) 1 1) [(q : Int)] w1 (ints_one q1 (by unfold I64; omega)) (by intro x hx; simp at hx; omega)
  rw [setOf_one] at C50
  have HV := hid hv
  have HI := hid hi
  have HQ := hid hqq
  clear hv hi hqq q1
  have hsub : IntKind.i64.wrap ((gs.length : Int) - 1) = (gs.length : Int) - 1 := IntWalk.i64_in _ (by omega)
  go_enter Try.func76, Try.ntmps76
  go_wp2_with (first | (go_at_call 30; refine CA.mono ?_; rintro e w' ⟨rfl, hw⟩; obtain rfl : w = w' := hw.symm) | fail)
  refine C50.mono ?_
  rintro e w2 ⟨b, rfl, hS2, hB2, hb⟩
  have hB02 := below_then hB1 hB1.size hB2
  clear CA C50 hw1
  go_wp2_with fail
  go_loopg [6, 7] gs.length (fun gg s6 _ wr => ∃ (k : Nat) (S : Nat → Bool), k ≤ gs.length ∧ k ≤ gg ∧ s6 = .int .i64 ((k : Int) - 1) ∧ Below w.heap.size w wr ∧ SetAt wr b 4 S ∧ Rem (reachT (upd noS q true) gs.reverse) (reachT S (gs.take k).reverse))
  case atStart => exact ⟨gs.length, _, Nat.le_refl _, Nat.le_refl _, by go_num, hB02, hS2, ⟨by rw [List.take_of_length_le (Nat.le_refl _)]⟩⟩
  case round =>
    clear hS2 hB02
    obtain ⟨k, S, hk, hg, rfl, hB, hS, HA⟩ := hrel
    cases k with
    | zero =>
      have e : reachT (upd noS q true) gs.reverse = S := by rw [HA.out]; rfl
      have HE := hid e
      have hz : ((0 : Nat) : Int) - 1 = -1 := rfl
      rw [hz]
      clear e
      go_wp2_with fail
      go_ret
      exact ⟨b, rfl, by rw [HQ.out, HE.out]; exact hS, hB, by omega⟩
    | succ m =>
      have hz : ((m + 1 : Nat) : Int) - 1 = (m : Int) := by omega
      rw [hz]
      obtain ⟨g, hgx, hgm, -⟩ := nth (show m < gs.length by omega)
      obtain ⟨bg, offg, vi, rfl, k0, k1, k2, hii, hg64, hkd0, hkd1⟩ := h.at_ m g hgx
      obtain ⟨Ai, ci, rfl, hli, hci⟩ := hii.form
      obtain ⟨hg1, hg2⟩ := HV.out g hgm
      obtain ⟨p, hp⟩ : ∃ p : Nat, g.var = p := Int.eq_ofNat_of_zero_le (by omega)
      have hp1 : p < 65537 := by omega
      rw [hp] at k0
      have hc0 := keeps_below hB _ _ k0
      have hc2 := keeps_below hB _ _ k2
      have hcp := hS.cell p hp1
      have hm0 : (m : Int) < (gs.length : Int) := by omega
      have hrt := reach_take hgx
      have HRT := hid hrt
      have HIN := hid (HI.out g hgm)
      have HP := hid hp
      have hsm : IntKind.i64.wrap ((m : Int) - 1) = (m : Int) - 1 := IntWalk.i64_in _ (by omega)
      clear hgx hgm hrt hg1 hg2 hp hz
      cases hSp : S p with
      | false =>
        rw [hSp] at hcp
        have e : reachT (upd noS q true) gs.reverse = reachT S (gs.take m).reverse := by
          rw [HA.out, HRT.out]
          show (if S g.var.toNat = true then _ else _) = _
          rw [HP.out, Int.toNat_natCast, hSp, if_neg (by simp)]
        have HE := hid e
        clear e hSp
        go_wp2_with fail
        go_roundg m
        case measure => omega
        case rel => exact ⟨m, S, by omega, Nat.le_refl _, by go_num, hB, hS, ⟨HE.out⟩⟩
      | true =>
        rw [hSp] at hcp
        have e : reachT (upd noS q true) gs.reverse = reachT (markS S g.ins) (gs.take m).reverse := by
          rw [HA.out, HRT.out]
          show (if S g.var.toNat = true then _ else _) = _
          rw [HP.out, Int.toNat_natCast, hSp, if_pos rfl]
        have HE := hid e
        clear e hSp
        go_wp2_with fail
        go_loopg [7] g.ins.length (fun gg s7 wr => ∃ (i : Nat), i ≤ g.ins.length ∧ g.ins.length - i ≤ gg ∧ s7 = .int .i64 i ∧ Below w.heap.size w wr ∧ SetAt wr b 4 (markS S (g.ins.take i)))
        case atStart => exact ⟨0, Nat.zero_le _, by omega, rfl, hB, hS⟩
        case round =>
          clear hS hB hc0 hc2 hcp
          obtain ⟨i, hi', hgi, rfl, hB, hS⟩ := hrel
          have hc2 := keeps_below hB _ _ k2
          by_cases hlti : i < g.ins.length
          · obtain ⟨y, hy, hym, -⟩ := nth hlti
            obtain ⟨by', oy, rfl, hcy, hy64⟩ := (hii.keep (keeps_below hB)).at_ i y hy
            have hltzi : (i : Int) < (g.ins.length : Int) := by omega
            have hyp := HIN.out y hym
            have CY := absR_any y wr hy64
            rw [absR_eq hyp] at CY
            have hqy := absN_lt y
            obtain ⟨r, hr⟩ : ∃ r, absN y = r := ⟨_, rfl⟩
            rw [hr] at CY hqy
            have hcr := hS.cell r hqy
            have hfr := hS.free r
            have HY := hid (And.intro hy hr)
            have HS := hid hS
            clear hy hym hyp hy64 hr hS
            go_wp2_with (first | (go_at_call 30; refine CY.mono ?_; rintro e w' ⟨rfl, hw⟩; obtain rfl : wr = w' := hw.symm) | fail)
            go_roundg (g.ins.length - (i + 1))
            case measure => omega
            case rel => exact ⟨i + 1, by omega, by omega, by go_num, hB.setCell (p := ⟨b, r, none⟩) (by show w.heap.size ≤ b; omega) _, by rw [take_snoc HY.out.1, markS_snoc, HY.out.2]; exact HS.out.store r true⟩
          · have hltzi : ¬ (i : Int) < (g.ins.length : Int) := by omega
            have hSe : SetAt wr b 4 (markS S g.ins) := by rw [List.take_of_length_le (by omega)] at hS; exact hS
            have HS := hid hSe
            clear hS hSe
            go_wp2_with fail
            go_roundg m
            case measure => omega
            case rel => exact ⟨m, markS S g.ins, by omega, Nat.le_refl _, by go_num, hB, HS.out, ⟨HE.out⟩⟩
end Go.Proofs.Ytnlobmepajakcaa
