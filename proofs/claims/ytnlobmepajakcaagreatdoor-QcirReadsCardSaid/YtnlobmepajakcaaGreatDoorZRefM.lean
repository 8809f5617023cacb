/- What the document's May and loose do; the conditions: the gates are at most 100,000 with 1,000,000 literals. -/
import Derived.Test.YtnlobmepajakcaaGreatDoorZRef
import Derived.Test.YtnlobmepajakcaaGreatDoorZSemO
set_option linter.unusedVariables false
set_option linter.unusedSimpArgs false
namespace Go.Proofs.YtnlobmepajakcaaGreatDoor
open Go.RowKit Go.Shelf

theorem addB_split (S : Nat → Bool) (v : Int) : addB S v = (varB v && !S v.toNat) := rfl

def looseP (ins : List Int) (gates : List PGate) : Bool := match addIns noS ins with
  | none => false
  | some S => match addGs S gates with
    | none => false
    | some A => !strangeG A gates
theorem addGs_no {S : Nat → Bool} {g : PGate} {gs : List PGate} (h : addB S g.var = false ∨ shapedB g.kind g.ins.length = false) : addGs S (g :: gs) = none := by
  unfold addGs
  by_cases h1 : shapedB g.kind g.ins.length = false
  · rw [if_pos h1]
  · rw [if_neg h1]
    rcases h with h | h
    · rw [if_neg (by rw [h]; simp)]
    · exact absurd h h1
theorem addGs_yes {S : Nat → Bool} {g : PGate} {gs : List PGate} (h1 : addB S g.var = true) (h2 : shapedB g.kind g.ins.length = true) : addGs S (g :: gs) = addGs (upd S g.var.toNat true) gs := by
  rw [addGs, if_neg (by rw [h2]; simp), if_pos h1]
set_option maxRecDepth 100000 in
set_option maxHeartbeats 2000000 in
theorem loose_any (va vg : Value) (ins : List Int) (gates : List PGate) (w : World) (ha : IntsAt w va ins) (hg0 : GatesAt w vg gates) :
    Calls Tryz.prog 110 #[va, vg] w fun e w' => e = .returned (.bool (looseP ins gates)) ∧ Below w.heap.size w w' := by
  obtain ⟨Aa, ca, rfl, hla, hca⟩ := ha.form
  obtain ⟨Ag, cg, rfl, hlg, hcg⟩ := hg0.form
  have hmk := make47 w
  have hS0 := set_made w
  have hB0 : Below w.heap.size w (w.alloc (.cells (madeCells #[Value.bool false] 65537) 4)) := (Below.refl _ w).alloc (Nat.le_refl _) _
  revert hmk hS0 hB0
  generalize w.alloc (.cells (madeCells #[Value.bool false] 65537) 4) = w1
  intro hmk hS0 hB0
  go_enter Tryz.func110, Tryz.ntmps110
  go_wp2_with fail
  go_loopg [6] ins.length (fun gg s6 wr => ∃ (j : Nat) (S : Nat → Bool), j ≤ ins.length ∧ ins.length - j ≤ gg ∧ s6 = .int .i64 (j : Int) ∧ Below w.heap.size w wr ∧ SetAt wr w.heap.size 4 S ∧ Aside (SetR S) ∧ Rem (addIns noS ins) (addIns S (ins.drop j)))
  case atStart => exact ⟨0, noS, Nat.zero_le _, by omega, rfl, hB0, hS0, (fun i hi => by simp [noS] at hi), ⟨rfl⟩⟩
  case round =>
    clear hmk hS0 hB0
    obtain ⟨j, S, hj, hg, rfl, hB, hS, hR, HA⟩ := hrel
    by_cases hlt : j < ins.length
    · obtain ⟨x, hx, hxm, hd⟩ := nth hlt
      obtain ⟨bx, ox, rfl, hcx, hx64⟩ := (ha.keep (keeps_below hB)).at_ j x hx
      have hltz : (j : Int) < (ins.length : Int) := by omega
      have CV := variable_any x
      have hA : addIns noS ins = if addB S x = true then addIns (upd S x.toNat true) (ins.drop (j + 1)) else none := by rw [HA.out, hd]; rfl
      rw [addB_split] at hA
      clear hx hxm hd hx64
      cases hvb : varB x with
      | false =>
        rw [hvb] at CV
        rw [hvb, Bool.false_and, if_neg (by simp)] at hA
        have HE := hid hA
        clear hA hvb
        go_wp2_with (first | (go_at_call 51; refine (CV _).mono ?_; rintro e w' ⟨rfl, rfl⟩) | fail)
        go_ret
        exact ⟨ret_bool (by unfold looseP; rw [HE.out]), hB⟩
      | true =>
        rw [hvb] at CV
        have hv2 := hvb
        unfold varB at hv2
        simp only [Bool.and_eq_true, decide_eq_true_eq] at hv2
        obtain ⟨m, hm⟩ : ∃ m : Nat, x = m := Int.eq_ofNat_of_zero_le (by omega)
        have hm1 : m < 65537 := by omega
        have HADD : Hid (S m = false → addB S x = true) := fun h => by rw [addB_split, hvb, hm, Int.toNat_natCast, h]; rfl
        rw [hm] at hcx CV hA
        have hcm := hS.cell m hm1
        have hfm := hS.free m
        rw [← hm, hvb, hm, Int.toNat_natCast, Bool.true_and] at hA
        cases hSm : S m with
        | true =>
          rw [hSm] at hcm
          rw [hSm, if_neg (by simp)] at hA
          have HE := hid hA
          clear hA hSm hm hv2 hvb
          go_wp2_with (first | (go_at_call 51; refine (CV _).mono ?_; rintro e w' ⟨rfl, rfl⟩) | fail)
          go_ret
          exact ⟨ret_bool (by unfold looseP; rw [HE.out]), hB⟩
        | false =>
          rw [hSm] at hcm
          rw [hSm, if_pos (by simp)] at hA
          have hRn := hR.upd (HADD.out hSm)
          rw [hm, Int.toNat_natCast] at hRn
          have HE := hid (And.intro hA hRn)
          have HS := hid hS
          clear hA hSm hm hv2 hvb hRn hS
          go_wp2_with (first | (go_at_call 51; refine (CV _).mono ?_; rintro e w' ⟨rfl, hw⟩; obtain rfl : wr = w' := hw.symm) | fail)
          go_roundg (ins.length - (j + 1))
          case measure => omega
          case rel => exact ⟨j + 1, _, by omega, by omega, by go_num, hB.setCell (p := ⟨w.heap.size, m, none⟩) (Nat.le_refl _) _, HS.out.store m true, HE.out.2, ⟨HE.out.1⟩⟩
    · have hltz : ¬ (j : Int) < (ins.length : Int) := by omega
      have hI : addIns noS ins = some S := by rw [HA.out, List.drop_eq_nil_of_le (by omega)]; rfl
      have HI := hid hI
      clear hI HA
      go_wp2_with fail
      go_loopg [7] gates.length (fun gg s7 wr => ∃ (j : Nat) (T : Nat → Bool), j ≤ gates.length ∧ gates.length - j ≤ gg ∧ s7 = .int .i64 (j : Int) ∧ Below w.heap.size w wr ∧ SetAt wr w.heap.size 4 T ∧ Aside (SetR T) ∧ Rem (addGs S gates) (addGs T (gates.drop j)))
      case atStart => exact ⟨0, S, Nat.zero_le _, by omega, rfl, hB, hS, hR, ⟨rfl⟩⟩
      case round =>
        clear hB hS hR
        obtain ⟨j, T, hj, hg, rfl, hB, hS, hR, HA⟩ := hrel
        by_cases hlt : j < gates.length
        · obtain ⟨g, hgx, hgm, hgd⟩ := nth hlt
          obtain ⟨bg, offg, vi, rfl, hc0, hc1, hc2, hi, h64, hkd0, hkd1⟩ := (hg0.keep (keeps_below hB)).at_ j g hgx
          obtain ⟨Ai, ci, rfl, hli, hci⟩ := hi.form
          have hltz : (j : Int) < (gates.length : Int) := by omega
          have CV := variable_any g.var
          have HD := hid hgd
          clear hgx hgm hgd hi
          cases hvb : varB g.var with
          | false =>
            rw [hvb] at CV
            have e : addGs S gates = none := by rw [HA.out, HD.out, addGs_no (.inl (by rw [addB_split, hvb]; rfl))]
            have HE := hid e
            clear e hvb
            go_wp2_with (first | (go_at_call 51; refine (CV _).mono ?_; rintro e w' ⟨rfl, rfl⟩) | fail)
            go_ret
            exact ⟨ret_bool (by unfold looseP; rw [HI.out]; simp only; rw [HE.out]), hB⟩
          | true =>
            rw [hvb] at CV
            have hv2 := hvb
            unfold varB at hv2
            simp only [Bool.and_eq_true, decide_eq_true_eq] at hv2
            obtain ⟨m, hm⟩ : ∃ m : Nat, g.var = m := Int.eq_ofNat_of_zero_le (by omega)
            have hm1 : m < 65537 := by omega
            have HM := hid hm
            have HVB := hid hvb
            rw [hm] at hc0 CV h64
            have hcm := hS.cell m hm1
            have hfm := hS.free m
            clear hvb hv2
            cases hSm : T m with
            | true =>
              rw [hSm] at hcm
              have e : addGs S gates = none := by rw [HA.out, HD.out, addGs_no (.inl (by rw [addB_split, hm, Int.toNat_natCast, hSm]; simp))]
              have HE := hid e
              clear e hSm hm
              go_wp2_with (first | (go_at_call 51; refine (CV _).mono ?_; rintro e w' ⟨rfl, rfl⟩) | fail)
              go_ret
              exact ⟨ret_bool (by unfold looseP; rw [HI.out]; simp only; rw [HE.out]), hB⟩
            | false =>
              rw [hSm] at hcm
              have CS := shape_any (m : Int) g.kind Ai g.ins.length ci wr (by omega)
              have hadd : addB T g.var = true := by rw [addB_split, HVB.out, hm, Int.toNat_natCast, hSm]; rfl
              have HADD := hid hadd
              cases hsh : shapedB g.kind g.ins.length with
              | false =>
                rw [hsh] at CS
                have e : addGs S gates = none := by rw [HA.out, HD.out, addGs_no (.inr hsh)]
                have HE := hid e
                clear e hSm hm hadd hsh
                go_wp2_with (first | (go_at_call 51; refine (CV _).mono ?_; rintro e w' ⟨rfl, hw⟩; obtain rfl : wr = w' := hw.symm) | (go_at_call 52; refine CS.mono ?_; rintro e w5 ⟨rfl, hB5⟩) | fail)
                go_ret
                exact ⟨ret_bool (by unfold looseP; rw [HI.out]; simp only; rw [HE.out]), below_then hB hB.size hB5⟩
              | true =>
                rw [hsh] at CS
                have e : addGs S gates = addGs (upd T m true) (gates.drop (j + 1)) := by rw [HA.out, HD.out, addGs_yes hadd hsh, hm, Int.toNat_natCast]
                have hRn := hR.upd hadd
                rw [hm, Int.toNat_natCast] at hRn
                have HE := hid (And.intro e hRn)
                clear e hSm hm hadd hsh hRn
                go_wp2_with (first | (go_at_call 51; refine (CV _).mono ?_; rintro e w' ⟨rfl, hw⟩; obtain rfl : wr = w' := hw.symm) | (go_at_call 52; refine CS.mono ?_; rintro e w5 ⟨rfl, hB5⟩; have hS5 := hS.below hB5; have cm5 := hS5.cell m hm1; have fm5 := hS5.free m; have c05 := keeps_below hB5 _ _ hc0) | fail)
                have hB05 := below_then hB hB.size hB5
                go_roundg (gates.length - (j + 1))
                case measure => omega
                case rel => exact ⟨j + 1, _, by omega, by omega, by go_num, hB05.setCell (p := ⟨w.heap.size, m, none⟩) (Nat.le_refl _) _, hS5.store m true, HE.out.2, ⟨HE.out.1⟩⟩
        · have hltz : ¬ (j : Int) < (gates.length : Int) := by omega
          have hG : addGs S gates = some T := by rw [HA.out, List.drop_eq_nil_of_le (by omega)]; rfl
          have HG := hid hG
          clear hG HA
          go_wp2_with fail
          go_loopg [8, 9] gates.length (fun gg s8 _ wr => ∃ (j : Nat), j ≤ gates.length ∧ gates.length - j ≤ gg ∧ s8 = .int .i64 (j : Int) ∧ Below w.heap.size w wr ∧ SetAt wr w.heap.size 4 T ∧ Rem (strangeG T gates) (strangeG T (gates.drop j)))
          case atStart => exact ⟨0, Nat.zero_le _, by omega, rfl, hB, hS, ⟨rfl⟩⟩
          case round =>
            clear hB hS
            obtain ⟨j, hj, hg, rfl, hB, hS, HA⟩ := hrel
            by_cases hlt : j < gates.length
            · obtain ⟨g, hgx, hgm, hgd⟩ := nth hlt
              obtain ⟨bg, offg, vi, rfl, hc0, hc1, hc2, hi, h64, hkd0, hkd1⟩ := (hg0.keep (keeps_below hB)).at_ j g hgx
              obtain ⟨Ai, ci, rfl, hli, hci⟩ := hi.form
              have hltz : (j : Int) < (gates.length : Int) := by omega
              have hA : strangeG T gates = ((g.ins.any fun l => !T (absN l)) || strangeG T (gates.drop (j + 1))) := by rw [HA.out, hgd]; rfl
              have HS3 := hid hA
              clear hgx hgm hgd hA HA
              go_wp2_with fail
              go_loopg [9] g.ins.length (fun gg s9 wr' => ∃ i : Nat, i ≤ g.ins.length ∧ g.ins.length - i ≤ gg ∧ s9 = .int .i64 (i : Int) ∧ wr' = wr ∧ Rem (g.ins.any fun l => !T (absN l)) ((g.ins.drop i).any fun l => !T (absN l)))
              case atStart => exact ⟨0, Nat.zero_le _, by omega, rfl, rfl, ⟨rfl⟩⟩
              case round =>
                obtain ⟨i, hi', hgi, rfl, hw, HB⟩ := hrel
                subst hw
                by_cases hlti : i < g.ins.length
                · obtain ⟨y, hy, hym, hyd⟩ := nth hlti
                  obtain ⟨b2, o2, rfl, hcy, hy64⟩ := hi.at_ i y hy
                  have hltzi : (i : Int) < (g.ins.length : Int) := by omega
                  have CK := known_any w.heap.size 4 T y _ hS hR hy64
                  have hB2 : (g.ins.any fun l => !T (absN l)) = (!T (absN y) || (g.ins.drop (i + 1)).any fun l => !T (absN l)) := by rw [HB.out, hyd, List.any_cons]
                  clear hy hym hyd hy64
                  cases hk : T (absN y) with
                  | false =>
                    rw [hk] at CK
                    rw [hk] at hB2
                    have e : strangeG T gates = true := by rw [HS3.out, hB2]; rfl
                    have HE := hid e
                    clear e hk hB2
                    go_wp2_with (first | (go_at_call 53; refine CK.mono ?_; rintro e w' ⟨rfl, rfl⟩) | fail)
                    go_ret
                    exact ⟨ret_bool (by unfold looseP; rw [HI.out]; simp only; rw [HG.out]; simp only; rw [HE.out]; rfl), hB⟩
                  | true =>
                    rw [hk] at CK
                    rw [hk, Bool.not_true, Bool.false_or] at hB2
                    have HE := hid hB2
                    clear hk hB2
                    go_wp2_with (first | (go_at_call 53; refine CK.mono ?_; rintro e w' ⟨rfl, hw⟩) | fail)
                    subst hw
                    go_roundg (g.ins.length - (i + 1))
                    case measure => omega
                    case rel => exact ⟨i + 1, by omega, by omega, by go_num, rfl, ⟨HE.out⟩⟩
                · have hltzi : ¬ (i : Int) < (g.ins.length : Int) := by omega
                  have e : strangeG T gates = strangeG T (gates.drop (j + 1)) := by rw [HS3.out, HB.out, List.drop_eq_nil_of_le (by omega)]; rfl
                  have HE := hid e
                  clear e
                  go_wp2_with fail
                  go_roundg (gates.length - (j + 1))
                  case measure => omega
                  case rel => exact ⟨j + 1, by omega, by omega, by go_num, hB, hS, ⟨HE.out⟩⟩
            · have hltz : ¬ (j : Int) < (gates.length : Int) := by omega
              have e : strangeG T gates = false := by rw [HA.out, List.drop_eq_nil_of_le (by omega)]; rfl
              have HE := hid e
              clear e
              go_wp2_with fail
              go_ret
              exact ⟨ret_bool (by unfold looseP; rw [HI.out]; simp only; rw [HG.out]; simp only; rw [HE.out]; rfl), hB⟩
end Go.Proofs.YtnlobmepajakcaaGreatDoor
