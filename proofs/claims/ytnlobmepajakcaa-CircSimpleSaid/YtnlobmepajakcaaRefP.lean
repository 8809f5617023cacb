/- What the reference's Prefix does; the condition: the prefix reads as data. -/
import Derived.Test.YtnlobmepajakcaaRefB
set_option linter.unusedVariables false
set_option linter.unusedSimpArgs false
namespace Go.Proofs.Ytnlobmepajakcaa
open Go.RowKit Go.Shelf

/-- What stands behind a list of variables that has been seen. -/
theorem pref_no {n : Nat} {xs : List Int} {v : Int} {vs : List Int} {ex : Bool} {bs : List PBlock} (hn : xs.length = n) (h : varB v = false ∨ v ∈ xs ∨ n = 1024) : prefRest n (setOf xs) (v :: vs) ex bs = none := by
  refine prefRest_no ?_
  rcases h with h | h | h
  · right
    unfold varB at h
    unfold addB
    rw [h]; rfl
  · right
    unfold addB setOf
    by_cases hv : 1 ≤ v
    · have : ((v.toNat : Nat) : Int) = v := by omega
      rw [this]; simp [h]
    · simp [hv]
  · left; omega
theorem pref_yes {n : Nat} {xs : List Int} {v : Int} {vs : List Int} {ex : Bool} {bs : List PBlock} (h1 : varB v = true) (h2 : v ∉ xs) (h3 : n < 1024) : prefRest n (setOf xs) (v :: vs) ex bs = prefRest (n + 1) (setOf (xs ++ [v])) vs ex bs := by
  unfold varB at h1
  simp only [Bool.and_eq_true, decide_eq_true_eq] at h1
  obtain ⟨q, rfl⟩ : ∃ q : Nat, v = q := Int.eq_ofNat_of_zero_le (by omega)
  rw [prefRest_yes (by omega) (addB_iff.2 ⟨h1.1, h1.2, by unfold setOf; simpa using h2⟩), setOf_snoc]; rfl

set_option maxRecDepth 100000 in
set_option maxHeartbeats 4000000 in
theorem PrefixR_any (v : Value) (p : List PBlock) (w : World) (h : BlocksAt w v p) :
    Calls Try.prog 49 #[v] w fun e w' => e = .returned (.bool (prefFrom none 0 noS p).isSome) ∧ Below w.heap.size w w' := by
  obtain ⟨A, c, rfl, hlc, hcm⟩ := h.form
  have hlen : p.length ≤ 9223372036854775807 := by omega
  have e0 : setOf [] = noS := by funext i; simp [setOf, noS]
  go_enter Try.func49, Try.ntmps49
  go_wp2_with fail
  go_loopg [3, 4, 5] p.length (fun gg s3 s4 _ wr => ∃ (k : Nat) (xs : List Int) (Ao : Option Addr) (co : Nat), k ≤ p.length ∧ p.length - k ≤ gg ∧ s4 = .int .i64 k ∧ s3 = .slice Ao xs.length co ∧ xs.length ≤ 1024 ∧ Below w.heap.size w wr ∧ wr.ownsRow w.heap.size 3 1 (.slice Ao xs.length co) xs.length (nums xs) ∧
    Aside (∀ x ∈ xs, I64 x) ∧ Rem (prefFrom none 0 noS p) (prefFrom (prevOf p k) xs.length (setOf xs) (p.drop k)))
  case atStart => exact ⟨0, [], none, 0, Nat.zero_le _, by omega, rfl, rfl, by simp, Below.refl _ _, by simpa [nums] using World.ownsRow_nil w w.heap.size 3 1, (fun x hx => by cases hx), ⟨by rw [e0]; rfl⟩⟩
  case round =>
    obtain ⟨k, xs, Ao, co, hk, hg, rfl, rfl, hxl, hB, hO, hX, HA⟩ := hrel
    by_cases hlt : k < p.length
    · obtain ⟨x, hx, hmem, hd⟩ := nth hlt
      obtain ⟨b, off, vx, rfl, hc0, hc1, hi⟩ := (h.keep (keeps_below hB)).at_ k x hx
      obtain ⟨Ai, ci, rfl, hli, hci⟩ := hi.form
      have hltz : (k : Int) < (p.length : Int) := by omega
      have HD := hid hd
      by_cases hv0 : x.vars = []
      · have hz : ((x.vars.length : Int) == 0) = true := by rw [hv0]; rfl
        have HV := hid hv0
        clear hd hx hv0
        go_wp2_with fail
        go_quiet (fail)
        go_wp2
        go_ret
        have hR : prefFrom none 0 noS p = none := by rw [HA.out, HD.out, prefFrom, if_pos HV.out]
        exact ⟨ret_bool (by rw [hR]; rfl), below_drewN hB _⟩
      · have hz : ((x.vars.length : Int) == 0) = false := by
          rw [beq_eq_false_iff_ne]; intro e; exact hv0 (List.eq_nil_of_length_eq_zero (by omega))
        have hcy : ∀ m, k = m + 1 → ∃ y, p[m]? = some y ∧ wr.cell? ⟨b, off + m * 2, none⟩ = some (.bool y.ex) ∧ prevOf p k = some y.ex := by
          intro m hm
          obtain ⟨y, hy, -, -⟩ := nth (show m < p.length by omega)
          obtain ⟨b', off', vy, eb, hcy, -, -⟩ := (h.keep (keeps_below hB)).at_ m y hy
          cases eb
          refine ⟨y, hy, hcy, ?_⟩
          unfold prevOf
          rw [if_neg (by omega), hm]
          simp [hy]
        by_cases hsame : prevOf p k = some x.ex
        · have hR : prefFrom none 0 noS p = none := by rw [HA.out, HD.out, prefFrom, if_neg hv0, if_pos hsame]
          obtain ⟨m, rfl⟩ : ∃ m, k = m + 1 := by
            cases k with
            | zero => simp [prevOf] at hsame
            | succ m => exact ⟨m, rfl⟩
          obtain ⟨y, hy, hc2, hpy⟩ := hcy m rfl
          rw [hpy] at hsame
          have heq : (x.ex == y.ex) = true := by injection hsame with e; rw [e]; simp
          have HR := hid hR
          clear hd hx hcy hy hpy hsame hv0 hR
          have hw1 : IntKind.i64.wrap (m : Int) = m := IntWalk.i64_in _ (by omega)
          have hm0 : 0 ≤ (m : Int) := by omega
          have hm1 : (m : Int) < (p.length : Int) := by omega
          go_wp2_with fail
          go_quiet (fail)
          go_wp2
          go_ret
          exact ⟨ret_bool (by rw [HR.out]; rfl), below_drewN hB _⟩
        · have hR : prefFrom none 0 noS p = prefRest xs.length (setOf xs) x.vars x.ex (p.drop (k + 1)) := by rw [HA.out, HD.out, prefFrom_go hv0 hsame]
          have HR := hid hR
          have HX := hid hx
          clear hR hd hx hi
          rcases Nat.eq_zero_or_pos k with h0 | h0
          · have hk0 : decide (0 < k) = false := by simp; omega
            have H0 := hid h0
            clear hcy hsame hv0 h0
            go_wp2_with fail
            go_quiet (fail)
            go_wp2
            obtain ⟨W0, hW0⟩ : ∃ W0, wr.drewN nq = W0 := ⟨_, rfl⟩
            have hB0 : Below w.heap.size w W0 := by rw [← hW0]; exact below_drewN hB nq
            have hO0 : W0.ownsRow w.heap.size 3 1 (.slice Ao xs.length co) xs.length (nums xs) := by rw [← hW0]; exact drewN_own hO nq
            rw [hW0]
            clear hW0 HA
            go_loopg [3, 5] x.vars.length (fun gg s3 s5 wr => ∃ (j : Nat) (ys : List Int) (Ay : Option Addr) (cy : Nat), j ≤ x.vars.length ∧ x.vars.length - j ≤ gg ∧ s5 = .int .i64 j ∧ s3 = .slice Ay ys.length cy ∧ ys.length ≤ 1024 ∧ Below w.heap.size w wr ∧ wr.ownsRow w.heap.size 3 1 (.slice Ay ys.length cy) ys.length (nums ys) ∧
              Aside (∀ x ∈ ys, I64 x) ∧ Rem (prefFrom none 0 noS p) (prefRest ys.length (setOf ys) (x.vars.drop j) x.ex (p.drop (k + 1))))
            case atStart => exact ⟨0, xs, Ao, co, Nat.zero_le _, by omega, rfl, rfl, hxl, hB0, hO0, hX, ⟨HR.out⟩⟩
            case round =>
              clear hB0 hO0 hc0 hc1 hO hX hxl
              obtain ⟨j, ys, Ay, cy, hj, hgj, rfl, rfl, hyl, hBi, hOi, hY, HAi⟩ := hrel
              obtain ⟨bq, offq, vq, eq, -, hc1, hiq⟩ := (h.keep (keeps_below hBi)).at_ k x HX.out
              cases eq
              obtain ⟨Aq, cq, rfl, hlq, hcq⟩ := hiq.form
              by_cases hltj : j < x.vars.length
              · obtain ⟨y, hy, -, hdy⟩ := nth hltj
                obtain ⟨bi, offi, rfl, hcy0, hyr⟩ := hiq.at_ j y hy
                have hltzj : (j : Int) < (x.vars.length : Int) := by omega
                have HDy := hid hdy
                have hI := ints_of_own hOi hY (by omega)
                have CV := fun W => variable_any y W
                have CI := In_any (.slice Ay ys.length cy) ys y wr hI
                clear hdy hy hI
                cases hvb : varB y with
                | false =>
                  rw [hvb] at CV
                  have hR : prefFrom none 0 noS p = none := by rw [HAi.out, HDy.out, pref_no rfl (.inl hvb)]
                  have HR2 := hid hR
                  clear hR hvb CI
                  go_wp2_with (go_at_call 51; refine (CV _).mono ?_; rintro e w' ⟨rfl, rfl⟩)
                  go_ret
                  exact ⟨ret_bool (by rw [HR2.out]; rfl), hBi⟩
                | true =>
                  rw [hvb] at CV
                  have HVB := hid hvb
                  clear hvb
                  by_cases hin : y ∈ ys
                  · rw [decide_eq_true hin] at CI
                    have hR : prefFrom none 0 noS p = none := by rw [HAi.out, HDy.out, pref_no rfl (.inr (.inl hin))]
                    have HR2 := hid hR
                    clear hR hin
                    go_wp2_with (first | (go_at_call 51; refine (CV _).mono ?_; rintro e w' ⟨rfl, rfl⟩) | (go_at_call 29; refine CI.mono ?_; rintro e w' ⟨rfl, rfl⟩))
                    go_ret
                    exact ⟨ret_bool (by rw [HR2.out]; rfl), hBi⟩
                  · rw [decide_eq_false hin] at CI
                    have HIN := hid hin
                    clear hin
                    by_cases hfull : ys.length = 1024
                    · have hz2 : ((ys.length : Int) == 1024) = true := by rw [beq_iff_eq]; omega
                      have hR : prefFrom none 0 noS p = none := by rw [HAi.out, HDy.out, pref_no rfl (.inr (.inr hfull))]
                      have HR2 := hid hR
                      clear hR hfull
                      go_wp2_with (first | (go_at_call 51; refine (CV _).mono ?_; rintro e w' ⟨rfl, rfl⟩) | (go_at_call 29; refine CI.mono ?_; rintro e w' ⟨rfl, rfl⟩))
                      go_ret
                      exact ⟨ret_bool (by rw [HR2.out]; rfl), hBi⟩
                    · have hz2 : ((ys.length : Int) == 1024) = false := by rw [beq_eq_false_iff_ne]; omega
                      have hR : prefFrom none 0 noS p = prefRest (ys.length + 1) (setOf (ys ++ [y])) (x.vars.drop (j + 1)) x.ex (p.drop (k + 1)) := by rw [HAi.out, HDy.out, pref_yes HVB.out HIN.out (by omega)]
                      have HR2 := hid hR
                      have hbs := hBi.size
                      have HYY := hid hY
                      have HYR := hid hyr
                      have hyl2 : ys.length + 1 ≤ 1024 := by omega
                      clear hR hfull hY hyr
                      go_wp2_with (first | (go_at_call 51; refine (CV _).mono ?_; rintro e w' ⟨rfl, rfl⟩) | (go_at_call 29; refine CI.mono ?_; rintro e w' ⟨rfl, rfl⟩) | (at_builtin; refine append_one w.heap.size rfl _ _ 26 3 (.int .i64 0) 1 8 rfl Try.underlying26 info3 rfl (by decide) (by decide) (.slice Ay ys.length cy) ys.length (nums ys) #[.int .i64 y] rfl rfl rfl (by intro u hu; simp at hu; subst hu; rfl) hOi hbs (by omega) ?_; intro g2 cap2 w3 hO3 hG3 hg3 hbg hlt3))
                      rw [nums_snoc] at hO3
                      go_roundg (x.vars.length - (j + 1))
                      case measure => omega
                      case rel =>
                        refine ⟨j + 1, ys ++ [y], some ⟨g2, 0, none⟩, cap2, by omega, by omega, by go_num, by simp, by simp; omega, hBi.grown hG3 hbs (fun r e => (hOi.lt r e).1), by simpa using hO3, (fun z hz => ?_), ⟨by rw [HR2.out, List.length_append]; rfl⟩⟩
                        rcases List.mem_append.1 hz with hz | hz
                        · exact HYY.out z hz
                        · rw [List.mem_singleton.1 hz]; exact HYR.out
              · have hltzj : ¬ (j : Int) < (x.vars.length : Int) := by omega
                have HYY := hid hY
                clear hY
                go_wp2_with fail
                go_roundg (p.length - (k + 1))
                case measure => omega
                case rel =>
                  refine ⟨k + 1, ys, Ay, cy, by omega, by omega, by go_num, rfl, hyl, hBi, hOi, HYY.out, ⟨?_⟩⟩
                  rw [HAi.out, List.drop_eq_nil_of_le (by omega : x.vars.length ≤ j), prefRest_nil]
                  unfold prevOf
                  rw [if_neg (by omega), Nat.add_sub_cancel, HX.out]
                  rfl
          · obtain ⟨y, hy, hc2, hpy⟩ := hcy (k - 1) (by omega)
            rw [hpy] at hsame
            have heq : (x.ex == y.ex) = false := by rw [beq_eq_false_iff_ne]; intro e; exact hsame (by rw [e])
            clear hcy hy hpy hsame hv0
            have hk0 : decide (0 < k) = true := by simp; omega
            have hw1 : IntKind.i64.wrap ((k : Int) - 1) = (k : Int) - 1 := IntWalk.i64_in _ (by omega)
            have hm0 : 1 ≤ (k : Int) := by omega
            have hm1 : (k : Int) - 1 < (p.length : Int) := by omega
            have hm2 : ((k : Int) - 1).toNat = k - 1 := by omega
            clear h0
            go_wp2_with fail
            go_quiet (fail)
            go_wp2
            obtain ⟨W0, hW0⟩ : ∃ W0, wr.drewN nq = W0 := ⟨_, rfl⟩
            have hB0 : Below w.heap.size w W0 := by rw [← hW0]; exact below_drewN hB nq
            have hO0 : W0.ownsRow w.heap.size 3 1 (.slice Ao xs.length co) xs.length (nums xs) := by rw [← hW0]; exact drewN_own hO nq
            rw [hW0]
            clear hW0 HA hw1 hm2 hc2
            go_loopg [3, 5] x.vars.length (fun gg s3 s5 wr => ∃ (j : Nat) (ys : List Int) (Ay : Option Addr) (cy : Nat), j ≤ x.vars.length ∧ x.vars.length - j ≤ gg ∧ s5 = .int .i64 j ∧ s3 = .slice Ay ys.length cy ∧ ys.length ≤ 1024 ∧ Below w.heap.size w wr ∧ wr.ownsRow w.heap.size 3 1 (.slice Ay ys.length cy) ys.length (nums ys) ∧
              Aside (∀ x ∈ ys, I64 x) ∧ Rem (prefFrom none 0 noS p) (prefRest ys.length (setOf ys) (x.vars.drop j) x.ex (p.drop (k + 1))))
            case atStart => exact ⟨0, xs, Ao, co, Nat.zero_le _, by omega, rfl, rfl, hxl, hB0, hO0, hX, ⟨HR.out⟩⟩
            case round =>
              clear hB0 hO0 hc0 hc1 hO hX hxl
              obtain ⟨j, ys, Ay, cy, hj, hgj, rfl, rfl, hyl, hBi, hOi, hY, HAi⟩ := hrel
              obtain ⟨bq, offq, vq, eq, -, hc1, hiq⟩ := (h.keep (keeps_below hBi)).at_ k x HX.out
              cases eq
              obtain ⟨Aq, cq, rfl, hlq, hcq⟩ := hiq.form
              by_cases hltj : j < x.vars.length
              · obtain ⟨y, hy, -, hdy⟩ := nth hltj
                obtain ⟨bi, offi, rfl, hcy0, hyr⟩ := hiq.at_ j y hy
                have hltzj : (j : Int) < (x.vars.length : Int) := by omega
                have HDy := hid hdy
                have hI := ints_of_own hOi hY (by omega)
                have CV := fun W => variable_any y W
                have CI := In_any (.slice Ay ys.length cy) ys y wr hI
                clear hdy hy hI
                cases hvb : varB y with
                | false =>
                  rw [hvb] at CV
                  have hR : prefFrom none 0 noS p = none := by rw [HAi.out, HDy.out, pref_no rfl (.inl hvb)]
                  have HR2 := hid hR
                  clear hR hvb CI
                  go_wp2_with (go_at_call 51; refine (CV _).mono ?_; rintro e w' ⟨rfl, rfl⟩)
                  go_ret
                  exact ⟨ret_bool (by rw [HR2.out]; rfl), hBi⟩
                | true =>
                  rw [hvb] at CV
                  have HVB := hid hvb
                  clear hvb
                  by_cases hin : y ∈ ys
                  · rw [decide_eq_true hin] at CI
                    have hR : prefFrom none 0 noS p = none := by rw [HAi.out, HDy.out, pref_no rfl (.inr (.inl hin))]
                    have HR2 := hid hR
                    clear hR hin
                    go_wp2_with (first | (go_at_call 51; refine (CV _).mono ?_; rintro e w' ⟨rfl, rfl⟩) | (go_at_call 29; refine CI.mono ?_; rintro e w' ⟨rfl, rfl⟩))
                    go_ret
                    exact ⟨ret_bool (by rw [HR2.out]; rfl), hBi⟩
                  · rw [decide_eq_false hin] at CI
                    have HIN := hid hin
                    clear hin
                    by_cases hfull : ys.length = 1024
                    · have hz2 : ((ys.length : Int) == 1024) = true := by rw [beq_iff_eq]; omega
                      have hR : prefFrom none 0 noS p = none := by rw [HAi.out, HDy.out, pref_no rfl (.inr (.inr hfull))]
                      have HR2 := hid hR
                      clear hR hfull
                      go_wp2_with (first | (go_at_call 51; refine (CV _).mono ?_; rintro e w' ⟨rfl, rfl⟩) | (go_at_call 29; refine CI.mono ?_; rintro e w' ⟨rfl, rfl⟩))
                      go_ret
                      exact ⟨ret_bool (by rw [HR2.out]; rfl), hBi⟩
                    · have hz2 : ((ys.length : Int) == 1024) = false := by rw [beq_eq_false_iff_ne]; omega
                      have hR : prefFrom none 0 noS p = prefRest (ys.length + 1) (setOf (ys ++ [y])) (x.vars.drop (j + 1)) x.ex (p.drop (k + 1)) := by rw [HAi.out, HDy.out, pref_yes HVB.out HIN.out (by omega)]
                      have HR2 := hid hR
                      have hbs := hBi.size
                      have HYY := hid hY
                      have HYR := hid hyr
                      have hyl2 : ys.length + 1 ≤ 1024 := by omega
                      clear hR hfull hY hyr
                      go_wp2_with (first | (go_at_call 51; refine (CV _).mono ?_; rintro e w' ⟨rfl, rfl⟩) | (go_at_call 29; refine CI.mono ?_; rintro e w' ⟨rfl, rfl⟩) | (at_builtin; refine append_one w.heap.size rfl _ _ 26 3 (.int .i64 0) 1 8 rfl Try.underlying26 info3 rfl (by decide) (by decide) (.slice Ay ys.length cy) ys.length (nums ys) #[.int .i64 y] rfl rfl rfl (by intro u hu; simp at hu; subst hu; rfl) hOi hbs (by omega) ?_; intro g2 cap2 w3 hO3 hG3 hg3 hbg hlt3))
                      rw [nums_snoc] at hO3
                      go_roundg (x.vars.length - (j + 1))
                      case measure => omega
                      case rel =>
                        refine ⟨j + 1, ys ++ [y], some ⟨g2, 0, none⟩, cap2, by omega, by omega, by go_num, by simp, by simp; omega, hBi.grown hG3 hbs (fun r e => (hOi.lt r e).1), by simpa using hO3, (fun z hz => ?_), ⟨by rw [HR2.out, List.length_append]; rfl⟩⟩
                        rcases List.mem_append.1 hz with hz | hz
                        · exact HYY.out z hz
                        · rw [List.mem_singleton.1 hz]; exact HYR.out
              · have hltzj : ¬ (j : Int) < (x.vars.length : Int) := by omega
                have HYY := hid hY
                clear hY
                go_wp2_with fail
                go_roundg (p.length - (k + 1))
                case measure => omega
                case rel =>
                  refine ⟨k + 1, ys, Ay, cy, by omega, by omega, by go_num, rfl, hyl, hBi, hOi, HYY.out, ⟨?_⟩⟩
                  rw [HAi.out, List.drop_eq_nil_of_le (by omega : x.vars.length ≤ j), prefRest_nil]
                  unfold prevOf
                  rw [if_neg (by omega), Nat.add_sub_cancel, HX.out]
                  rfl
    · have hltz : ¬ (k : Int) < (p.length : Int) := by omega
      have hR : prefFrom none 0 noS p = some (setOf xs) := by rw [HA.out, List.drop_eq_nil_of_le (by omega)]; rfl
      have HR := hid hR
      clear hR
      go_wp2_with fail
      go_ret
      exact ⟨ret_bool (by rw [HR.out]; rfl), hB⟩
end Go.Proofs.Ytnlobmepajakcaa
