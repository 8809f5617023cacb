/- What the reference's Out does; the condition: each block has a variable, the variables lie from 0 to 65,536, and there are at most 2^16 blocks of at most 2^16 variables. -/
import Derived.Test.YtnlobmepajakcaaRefA
import Derived.Test.YtnlobmepajakcaaWithout
set_option linter.unusedVariables false
set_option linter.unusedSimpArgs false
namespace Go.Proofs.Ytnlobmepajakcaa
open Go.RowKit Go.Shelf

theorem keepV_snoc (S : Nat → Bool) (xs : List Int) (v : Int) : keepV S (xs ++ [v]) = if S v.toNat = true then keepV S xs else keepV S xs ++ [v] := by
  unfold keepV
  rw [List.filter_append]
  cases h : S v.toNat <;> simp [h]
theorem gstep_nil {S : Nat → Bool} {out : List PBlock} {b : PBlock} (h : keepV S b.vars = []) : gstep S out b = out := by
  unfold gstep
  cases hl : out.getLast? with
  | none => simp [h]
  | some x =>
    simp only
    split
    · rw [h, List.append_nil]
      obtain ⟨ys, e⟩ := List.getLast?_eq_some_iff.1 hl
      rw [e]; simp
    · simp [h]
set_option maxRecDepth 100000 in
set_option maxHeartbeats 4000000 in
theorem outR_any (v : Value) (p : List PBlock) (b : Nat) (S : Nat → Bool) (w : World) (h : BlocksAt w v p) (hS : SetAt w b 4 S) (hpl : p.length ≤ 65536)
    (hp : ∀ x ∈ p, x.vars ≠ [] ∧ x.vars.length ≤ 65536 ∧ ∀ y ∈ x.vars, 0 ≤ y ∧ y ≤ 65536) :
    Calls Try.prog 85 #[v, .slice (some ⟨b, 0, none⟩) 65537 65537] w fun e w' => Below w.heap.size w w' ∧ ∃ vo, e = .returned vo ∧ OutAt w' w.heap.size vo (withoutP S p) := by
  obtain ⟨A, c, rfl, hlc, hcm⟩ := h.form
  have hHP := hid hp
  clear hp
  go_enter Try.func85, Try.ntmps85
  go_wp2_with fail
  go_loopg [5, 6, 7, 8, 9] p.length (fun gg s5 s6 _ _ _ wr => ∃ (k : Nat) (out : List PBlock), k ≤ p.length ∧ p.length - k ≤ gg ∧ s6 = .int .i64 k ∧ Below w.heap.size w wr ∧ OutAt wr w.heap.size s5 out ∧
    out.length ≤ k ∧ OutB k out ∧ Rem (withoutP S p) ((p.drop k).foldl (gstep S) out))
  case atStart => exact ⟨0, [], Nat.zero_le _, by omega, rfl, Below.refl _ _, .inl ⟨rfl, rfl⟩, Nat.le_refl _, OutB.nil 0, ⟨rfl⟩⟩
  case round =>
    obtain ⟨k, out, hk, hg, rfl, hB, hO, hok, hob, HA⟩ := hrel
    rename World => wo
    obtain ⟨Ao, co, rfl, hol⟩ := hO.form
    by_cases hlt : k < p.length
    · obtain ⟨x, hx, hmem, hd⟩ := nth hlt
      obtain ⟨bp, off, vx, rfl, hc0, hc1, hi⟩ := (h.keep (keeps_below hB)).at_ k x hx
      obtain ⟨Ax, cx, rfl, hlx, hcx⟩ := hi.form
      have hltz : (k : Int) < (p.length : Int) := by omega
      obtain ⟨hp1, hp2, hp3⟩ := hHP.out x hmem
      have HD := hid hd
      have HO := hid hO
      clear hd hx hO
      go_wp2_with fail
      go_loopg [7, 8] x.vars.length (fun gg s7 s8 wr => ∃ (i : Nat) (Al : Option Addr) (cl : Nat) (l : List Int), i ≤ x.vars.length ∧ x.vars.length - i ≤ gg ∧ s8 = .int .i64 i ∧ s7 = .slice Al l.length cl ∧ Below wo.heap.size wo wr ∧ wr.ownsRow wo.heap.size 3 1 (.slice Al l.length cl) l.length (nums l) ∧ l.length ≤ i ∧ Aside (l = keepV S (x.vars.take i)))
      case atStart => exact ⟨0, none, 0, [], Nat.zero_le _, by omega, rfl, rfl, Below.refl _ _, World.ownsRow_nil _ _ _ _, Nat.le_refl _, by show [] = _; simp [keepV]⟩
      case round =>
        obtain ⟨i, Al, cl, l, hil, hgi, rfl, rfl, hBi, hOl, hli, hT⟩ := hrel
        have d1 := keeps_below hBi _ _ hc1
        by_cases hltI : i < x.vars.length
        · obtain ⟨z, hz, hzm, -⟩ := nth hltI
          obtain ⟨bx, ox, rfl, hcz, -⟩ := (hi.keep (keeps_below hBi)).at_ i z hz
          have hltzI : (i : Int) < (x.vars.length : Int) := by omega
          obtain ⟨hz1, hz2⟩ := hp3 z hzm
          obtain ⟨n, rfl⟩ := Int.eq_ofNat_of_zero_le hz1
          have hzn : n < 65537 := by omega
          have hzn2 : (n : Int) < 65537 := by omega
          have hS2 := (hS.below hB).below hBi
          have hcs := hS2.cell n hzn
          have HT := hid (keepV_snoc S (x.vars.take i) n)
          have HT2 := hid hT
          have HZ := hid hz
          have hwo := hBi.size
          clear hz hzm hz1 hz2 hT hS2
          cases hs : S n with
          | true =>
            rw [hs] at hcs
            have HS := hid hs
            clear hs
            go_wp2_with fail
            go_roundg (x.vars.length - (i + 1))
            case measure => omega
            case rel =>
              refine ⟨i + 1, Al, cl, l, by omega, by omega, by go_num, rfl, hBi, hOl, by omega, ?_⟩
              show l = _
              rw [take_snoc HZ.out, HT.out, Int.toNat_natCast, if_pos HS.out]
              exact HT2.out
          | false =>
            rw [hs] at hcs
            have HS := hid hs
            clear hs
            go_wp2_with (at_builtin; refine append_one wo.heap.size rfl _ _ 26 3 (.int .i64 0) 1 8 rfl Try.underlying26 info3 rfl (by decide) (by decide) (.slice Al l.length cl) l.length (nums l) #[.int .i64 (n : Int)] rfl rfl rfl (by intro u hu; simp at hu; subst hu; rfl) hOl hwo (by omega) ?_; intro g cap w3 hO3 hG3 hg3 hbg hlt3)
            have hB3 : Below wo.heap.size wo w3 := hBi.grown hG3 hBi.size (fun q e => (hOl.lt q e).1)
            rw [nums_snoc] at hO3
            go_roundg (x.vars.length - (i + 1))
            case measure => omega
            case rel =>
              refine ⟨i + 1, some ⟨g, 0, none⟩, cap, l ++ [(n : Int)], by omega, by omega, by go_num, by simp, hB3, by simpa using hO3, by simp; omega, ?_⟩
              show l ++ [(n : Int)] = _
              rw [take_snoc HZ.out, HT.out, Int.toNat_natCast, if_neg (by rw [HS.out]; simp), ← (show l = _ from HT2.out)]
        · obtain rfl : i = x.vars.length := by omega
          rw [List.take_length] at hT
          have hltzI : ¬ (x.vars.length : Int) < (x.vars.length : Int) := by omega
          have hT' : l = keepV S x.vars := hT
          have hstep : Rem (withoutP S p) ((p.drop (k + 1)).foldl (gstep S) (gstep S out x)) := ⟨by rw [HA.out, HD.out]; rfl⟩
          have hBwi := below_then hB hB.size hBi
          have hb65 := hob
          clear hltI hgi hil hT
          by_cases hl0 : l.length = 0
          · have hz0 : ((l.length : Int) == 0) = true := by rw [hl0]; rfl
            have hgn : gstep S out x = out := gstep_nil (by rw [← hT']; exact List.eq_nil_of_length_eq_zero hl0)
            have HG := hid hgn
            clear hl0 hgn hT'
            go_wp2_with fail
            go_roundg (p.length - (k + 1))
            case measure => omega
            case rel => exact ⟨k + 1, out, by omega, by omega, by go_num, hBwi, HO.out.below hBi, by omega, hob.up, by rw [HG.out] at hstep; exact hstep⟩
          · have hz0 : ((l.length : Int) == 0) = false := by rw [beq_eq_false_iff_ne]; omega
            have d0 := keeps_below hBi _ _ hc0
            have hlne : keepV S x.vars ≠ [] := by rw [← hT']; intro e; rw [e] at hl0; exact hl0 rfl
            have hOw := HO.out.below hBi
            have hwo := hBi.size
            have hww := hB.size
            have hlk : ∀ z ∈ l, 0 ≤ z ∧ z ≤ 65536 := fun z hz => hp3 z (keepV_mem (hT' ▸ hz))
            have push : ∀ W w4 g2 cap2, Below wr.heap.size wr W → (∀ y, out.getLast? = some y → y.ex ≠ x.ex) →
                (∃ xs, W.ownsRow w.heap.size 80 2 (.slice Ao out.length co) out.length xs ∧ w4.ownsRow w.heap.size 80 2 (.slice (some ⟨g2, 0, none⟩) (out.length + 1) cap2) (out.length + 1) (xs ++ [.bool x.ex, .slice Al l.length cl])) →
                W.grownBy w4 (Value.slice Ao out.length co).ownBlock → ((Value.slice Ao out.length co).ownBlock = some g2 ∨ W.heap.size ≤ g2) → OutAt w4 w.heap.size (.slice (some ⟨g2, 0, none⟩) (out.length + 1) cap2) (gstep S out x) ∧ (gstep S out x).length ≤ k + 1 ∧ OutB (k + 1) (gstep S out x) := fun W w4 g2 cap2 hW hlast hrow hG hg2 => by
              have e : gstep S out x = out ++ [⟨x.ex, l⟩] := by rw [gstep_push hlast, if_neg hlne, ← hT']
              rw [e]
              obtain ⟨xs, hr1, hr2⟩ := hrow
              have hlW := own_lower (hOl.kept (grown_of_below hW none) (by cases (Value.slice Al l.length cl).ownBlock <;> simp)) (show w.heap.size ≤ wo.heap.size by omega)
              refine ⟨HO.out.push (x2 := ⟨x.ex, l⟩) (fun z hz y hy => by have := (hob z hz).2 y hy; unfold I64; omega) (below_then hBi hBi.size hW) hlW (fun q e => (hOl.lt q e).1) (fun ys hy => by rw [own_unique hy hr1]; exact hr2) hG (fun q e => ?_), by simp; omega, hob.push (by omega) hlk⟩
              injection e with e
              have e' : g2 = q := e
              rw [← e']; exact hg2
            have PUSH := hid push
            clear push
            obtain ⟨xs, hxs⟩ := hOw.row
            have HT3 := hid hT'
            have HLK := hid hlk
            clear hT' hlne hlk
            by_cases hz1 : out = []
            · have e2 : Value.slice Ao out.length co = .slice none 0 0 := by
                rcases HO.out with ⟨_, e⟩ | ⟨init, x', vi, vl, e1, _⟩
                · exact e
                · rw [hz1] at e1; simp at e1
              injection e2 with ea eb ec
              subst ea; subst ec
              have HLA : Hid (∀ y, out.getLast? = some y → y.ex ≠ x.ex) := hid fun y hy => by rw [hz1] at hy; cases hy
              subst hz1
              simp only [List.length_nil] at hxs PUSH ⊢
              clear hOw eb HO hb65 hob
              go_wp2_with fail
              refine region_quiet (by kernel_rfl) (by kernel_rfl) ?_
              repeat (first | go_big_quiet_step (fail) | quiet_step (fail))
              refine wpQuiet_nil ?_
              rintro W ⟨pW, hpW⟩
              have hBW : Below wr.heap.size wr W := by rw [hpW]; exact since_below wr pW
              clear hpW
              have hxsd := hxs.kept (grown_of_below hBW none) (by simp [Value.ownBlock])
              have d0d := keeps_below hBW _ _ d0
              have hbs : w.heap.size ≤ W.heap.size := by have := hBW.size; omega
              clear d0 d1 hxs
              go_wp2_with (at_builtin; refine append_one w.heap.size rfl _ _ 22 80 (.agg #[.bool false, .slice none 0 0]) 2 32 rfl Try.underlying22 info80 rfl (by decide) (by decide) (.slice none 0 0) (0) xs #[.bool x.ex, .slice Al l.length cl] rfl rfl rfl (by intro u hu; simp at hu; rcases hu with rfl | rfl <;> rfl) hxsd hbs (by omega) ?_; intro g2 cap2 w4 hO4 hG4 hg4 hbg hlt4)
              have R := PUSH.out W w4 g2 cap2 hBW HLA.out ⟨xs, hxsd, hO4⟩ hG4 hg4
              have hoB : ∀ q, (.slice none 0 0 : Value).ownBlock = some q → w.heap.size ≤ q := fun q e => (hxsd.lt q e).1
              have hBw4 : Below w.heap.size w w4 := (below_then hBwi hBwi.size hBW).grown hG4 (by omega) hoB
              go_roundg (p.length - (k + 1))
              case measure => omega
              case rel => exact ⟨k + 1, _, by omega, by omega, by go_num, hBw4, R.1, R.2.1, R.2.2, hstep⟩
            · have hO' := hOw
              rcases hO' with ⟨e1, -⟩ | ⟨init, y, vi, vl, e1, h2, h3, h4, h4b, h5⟩
              · exact absurd e1 hz1
              · have hlen : out.length = init.length + 1 := by rw [e1]; simp
                have hlasty : out.getLast? = some y := by rw [e1]; simp
                obtain ⟨go, co2, eo, hgo1, hgo2, hgo3⟩ := own_form h3 (by omega)
                injection eo with eo1 eo2 eo3
                subst eo1
                subst eo3
                obtain ⟨ni, hni⟩ : ∃ ni, init.length = ni := ⟨_, rfl⟩
                rw [hlen] at h3
                obtain ⟨hl0', hl1⟩ := last_cells h2 h3
                rw [hni] at hl0' hl1 hlen
                rw [hlen] at PUSH hok hol hxs ⊢
                have HN := hid hni
                have HS := hid hlasty
                have HL := hid hlen
                have HE := hid e1
                have H3 := hid h3
                have H5 := hid h5
                have H2 := hid h2
                have HB := hid hob
                have H4B : Hid (∀ q, vl.ownBlock ≠ some q ∨ q ≠ go) := hid fun q => by
                  by_cases hq : vl.ownBlock = some q
                  · right; intro e; exact h4b q hq (by rw [e]; rfl)
                  · exact .inl hq
                have hw1 : IntKind.i64.wrap (ni : Int) = ni := IntWalk.i64_in _ (by omega)
                have hm0 : 0 ≤ (ni : Int) := by omega
                have s0 := fun p => cell_since hl0' p
                have s1 := fun p => cell_since d0 p
                obtain ⟨gl, capl, el, -, -, -⟩ := own_form hOl (by omega)
                injection el with el1 el2 el3
                subst el1
                subst el3
                clear hni hlasty hlen e1 h3 h5 h2 hob hb65 hOw HO hz1
                by_cases hex : y.ex = x.ex
                · have hexb : (y.ex == x.ex) = true := by rw [hex]; simp
                  have HX := hid hex
                  clear hex
                  go_wp2_with fail
                  refine region_quiet (by kernel_rfl) (by kernel_rfl) ?_
                  repeat (first | go_big_quiet_step (fail) | quiet_step (fail))
                  refine wpQuiet_nil ?_
                  rintro W ⟨pW, hpW⟩
                  have hBd : Below wr.heap.size wr W := by rw [hpW]; exact since_below wr pW
                  clear hpW s0 s1
                  have hl1d := keeps_below hBd _ _ hl1
                  have h4d := h4.kept (grown_of_below hBd none) (by cases vl.ownBlock <;> simp)
                  have h3d := H3.out.kept (grown_of_below hBd none) (by simp [Value.ownBlock])
                  have hl2d := fun j => h3d.frozenAt j
                  have H3d := hid h3d
                  have hlW := hOl.kept (grown_of_below hBd none) (by simp [Value.ownBlock])
                  have hbs : w.heap.size ≤ W.heap.size := by have := hBd.size; omega
                  have hyb := HB.out y (by rw [HE.out]; simp)
                  have hb8 : (y.vars.length + l.length) * 8 ≤ 140737488355328 := by
                    have h1 : y.vars.length ≤ 65536 * 65536 := Nat.le_trans hyb.1 (Nat.mul_le_mul_right _ (by omega))
                    omega
                  clear hxs hl0' hl1 h4 h3d hyb d0 d1
                  go_wp2_with (at_builtin; refine append_ints w.heap.size wo.heap.size rfl _ _ rfl vl y.vars.length y.vars gl l.length cl l rfl rfl h4d hlW hbs hb8 ?_; intro vl1 w4 hO4 hG4 hb4; obtain ⟨A1, c1, rfl⟩ := own_shape hO4; have hl1e : w4.cell? ⟨go, ni * 2 + 1, none⟩ = some vl := hG4.cell hl1d (by intro e; rcases H4B.out go with h | h; exact h e.symm; exact h rfl); have hl2e := fun j => (H3d.out.kept hG4 (by right; intro e; rcases H4B.out go with h | h; exact h e.symm; exact h rfl)).frozenAt j)
                  have hcb : ∀ b, (Value.slice A1 (y.vars.length + l.length) c1).ownBlock = some b → vl.ownBlock = some b ∨ W.heap.size ≤ b := fun q e => by
                    rcases hb4 with h | h
                    · exact .inl (h ▸ e)
                    · right; rw [h] at e; injection e with e; omega
                  have hO4' : w4.ownsRow w.heap.size 3 1 (.slice A1 (y.vars.length + l.length) c1) (y.vars ++ l).length (nums (y.vars ++ l)) := by
                    rw [List.length_append]; exact hO4
                  have hvb : ∀ q, vl.ownBlock = some q → w.heap.size ≤ q := fun q e => (h4d.lt q e).1
                  have R := OutAt.ext H2.out H3d.out h4d (fun q hq e => by rcases H4B.out q with h | h; exact h hq; exact h e) (fun i z v hz hv => by
                    obtain ⟨k1, k2⟩ := H5.out i z v hz hv
                    exact ⟨k1.keep (keeps_below hBd), fun q hq => ⟨(k2 q hq).1, (fun e => (k2 q hq).2.1 (by rw [e]; rfl)), Nat.lt_of_lt_of_le (k2 q hq).2.2.1 hBd.size, (k2 q hq).2.2.2⟩⟩) hO4' hG4 hcb
                  rw [HN.out] at R
                  have hBw4 : Below w.heap.size w w4 := (below_then hBwi hBwi.size hBd).grown hG4 (by omega) hvb
                  have hBw5 := hBw4.setCell (p := ⟨go, ni * 2 + 1, none⟩) (show w.heap.size ≤ go by omega) (.slice A1 (y.vars.length + l.length) c1)
                  have hE2 : gstep S out x = init ++ [⟨y.ex, y.vars ++ l⟩] := by rw [HE.out, gstep_same HX.out, ← HT3.out]
                  go_roundg (p.length - (k + 1))
                  case measure => omega
                  case rel =>
                    refine ⟨k + 1, gstep S out x, by omega, by omega, by go_num, hBw5, ?_, ?_, ?_, hstep⟩
                    · rw [hE2]; exact R
                    · rw [hE2, List.length_append, HN.out]; simp; omega
                    · rw [hE2]; have hb := HB.out; rw [HE.out] at hb; exact hb.ext (by omega) HLK.out
                · have hexb : (y.ex == x.ex) = false := by rw [beq_eq_false_iff_ne]; exact hex
                  have hlast : ∀ z, out.getLast? = some z → z.ex ≠ x.ex := fun z hz => by rw [HS.out] at hz; injection hz with hz; rw [← hz]; exact hex
                  have HLA := hid hlast
                  clear hex hlast
                  go_wp2_with fail
                  refine region_quiet (by kernel_rfl) (by kernel_rfl) ?_
                  repeat (first | go_big_quiet_step (fail) | quiet_step (fail))
                  refine wpQuiet_nil ?_
                  rintro W ⟨pW, hpW⟩
                  have hBd : Below wr.heap.size wr W := by rw [hpW]; exact since_below wr pW
                  clear hpW s0 s1
                  have hxsd := hxs.kept (grown_of_below hBd none) (by simp [Value.ownBlock])
                  have d0d := keeps_below hBd _ _ d0
                  have hbs : w.heap.size ≤ W.heap.size := by have := hBd.size; omega
                  clear d0 d1 hxs hl0' hl1 h4 hw1 hm0
                  go_wp2_with (at_builtin; refine append_one w.heap.size rfl _ _ 22 80 (.agg #[.bool false, .slice none 0 0]) 2 32 rfl Try.underlying22 info80 rfl (by decide) (by decide) (.slice (some ⟨go, 0, none⟩) (ni + 1) co) (ni + 1) xs #[.bool x.ex, .slice (some ⟨gl, 0, none⟩) l.length cl] rfl rfl rfl (by intro u hu; simp at hu; rcases hu with rfl | rfl <;> rfl) hxsd hbs (by omega) ?_; intro g2 cap2 w4 hO4 hG4 hg4 hbg hlt4)
                  have R := PUSH.out W w4 g2 cap2 hBd HLA.out ⟨xs, hxsd, hO4⟩ hG4 hg4
                  have hoB : ∀ q, (Value.slice (some ⟨go, 0, none⟩) (ni + 1) co).ownBlock = some q → w.heap.size ≤ q := fun q e => (hxsd.lt q e).1
                  have hBw4 : Below w.heap.size w w4 := (below_then hBwi hBwi.size hBd).grown hG4 (by omega) hoB
                  go_roundg (p.length - (k + 1))
                  case measure => omega
                  case rel => exact ⟨k + 1, _, by omega, by omega, by go_num, hBw4, R.1, R.2.1, R.2.2, hstep⟩
    · have hltz : ¬ (k : Int) < (p.length : Int) := by omega
      have hR : out = withoutP S p := by rw [HA.out, List.drop_eq_nil_of_le (by omega)]; rfl
      have HR := hid hR
      clear hR
      go_wp2_with fail
      go_ret
      refine ⟨hB, _, rfl, ?_⟩
      rw [← HR.out]
      exact hO
end Go.Proofs.Ytnlobmepajakcaa
