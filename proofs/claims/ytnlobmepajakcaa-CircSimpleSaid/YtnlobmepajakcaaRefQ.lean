/- The reference's meant and many; the conditions: the numbers are small. -/
import Derived.Test.YtnlobmepajakcaaRefA
import Derived.Test.YtnlobmepajakcaaGather
import Derived.Test.YtnlobmepajakcaaIdx
set_option linter.unusedVariables false
set_option linter.unusedSimpArgs false
namespace Go.Proofs.Ytnlobmepajakcaa
open Go.RowKit Go.Shelf

set_option maxRecDepth 100000 in
theorem meantR_any (b : Nat) (M : Nat → Int) (l : Int) (w : World) (hm : MeanAt w b 3 M) (h1 : -65536 ≤ l) (h2 : l ≤ 65536) (hb : ∀ i, -1000000 ≤ M i ∧ M i ≤ 1000000) :
    Calls Try.prog 83 #[.slice (some ⟨b, 0, none⟩) 65537 65537, .int .i64 l] w fun e w' => e = .returned (.int .i64 (meanL M l)) ∧ w' = w := by
  by_cases h : l < 0
  · obtain ⟨k, hk⟩ := Int.eq_ofNat_of_zero_le (show 0 ≤ -l by omega)
    have hc := hm.cell k (by omega)
    have hbk := hb k
    have hr : meanL M l = -M k := by unfold meanL; rw [if_pos h]; congr 2; omega
    have h3 : (k : Int) < 65537 := by omega
    have h4 : IntKind.i64.wrap (-l) = (k : Int) := by rw [hk]; exact IntWalk.i64_in _ (by omega)
    have HR := hid hr
    clear hr hm hb hk
    generalize M k = m at hc hbk HR
    have h5 : IntKind.i64.wrap (-m) = -m := IntWalk.i64_in _ (by omega)
    have h0 : 0 ≤ (k : Int) := by omega
    clear hbk h1 h2
    go_enter Try.func83, Try.ntmps83
    go_wp2_with fail
    go_ret
    exact ⟨ret_int HR.out.symm, rfl⟩
  · obtain ⟨k, rfl⟩ := Int.eq_ofNat_of_zero_le (show 0 ≤ l by omega)
    have hc := hm.cell k (by omega)
    have hr : meanL M (k : Int) = M k := by unfold meanL; rw [if_neg h]; rfl
    have h3 : (k : Int) < 65537 := by omega
    have HR := hid hr
    clear hr hm hb
    generalize M k = m at hc HR
    go_enter Try.func83, Try.ntmps83
    go_wp2_with fail
    go_ret
    exact ⟨ret_int HR.out.symm, rfl⟩
set_option maxRecDepth 100000 in
set_option maxHeartbeats 4000000 in
theorem manyR_any (k skip win : Int) (v : Value) (ls : List Int) (w : World) (h : IntsAt w v ls) (hk : (k = 2 ∧ skip = -1000000 ∧ win = 1000000) ∨ (k ≠ 2 ∧ skip = 1000000 ∧ win = -1000000)) (hls : ∀ x ∈ ls, -1000000 ≤ x ∧ x ≤ 1000000) (hn : ls.length ≤ 1099511627776) :
    Calls Try.prog 98 #[.int .u8 k, v] w (GatherPost w (gatherP skip ls)) := by
  obtain ⟨A, c, rfl, hlc, hcm⟩ := SlAt.form h
  have hlen : ls.length ≤ 9223372036854775807 := by omega
  rcases hk with ⟨rfl, rfl, rfl⟩ | ⟨hk, rfl, rfl⟩
  · go_enter Try.func98, Try.ntmps98
    go_wp2_with fail
    go_loopg [8, 9] ls.length (fun gg s8 s9 wr => ∃ (j : Nat) (out : List Int) (Ao : Option Addr) (co : Nat), j ≤ ls.length ∧ ls.length - j ≤ gg ∧ s9 = .int .i64 j ∧ s8 = .slice Ao out.length co ∧ Below w.heap.size w wr ∧
      wr.ownsRow w.heap.size 3 1 (.slice Ao out.length co) out.length (nums out) ∧ out.length ≤ j ∧ Aside (∀ x ∈ out, -1000000 ≤ x ∧ x ≤ 1000000) ∧ Rem (gatherGo (-1000000) [] ls) (gatherGo (-1000000) out (ls.drop j)))
    case atStart => exact ⟨0, [], none, 0, Nat.zero_le _, by omega, rfl, rfl, Below.refl _ _, World.ownsRow_nil _ _ _ _, Nat.le_refl _, (fun x hx => by cases hx), ⟨rfl⟩⟩
    case round =>
      obtain ⟨j, out, Ao, co, hj, hg, rfl, rfl, hB, hO, hok, hob, HA⟩ := hrel
      have hi : IntsAt wr (.slice Ao out.length co) out := ints_of_own hO (fun y hy => by have := hob y hy; unfold I64; omega) (by omega)
      by_cases hlt : j < ls.length
      · obtain ⟨x, hx, hmem, hd⟩ := nth hlt
        obtain ⟨b, off, rfl, hc0, -⟩ := (h.keep (keeps_below hB)).at_ j x hx
        obtain ⟨hx1, hx2⟩ := hls x hmem
        have hltz : (j : Int) < (ls.length : Int) := by omega
        have h4 : IntKind.i64.wrap (-x) = -x := IntWalk.i64_in _ (by omega)
        have CI1 := In_any _ out (-x) wr hi
        have CI2 := In_any _ out x wr hi
        have HD := hid hd
        have HL := hid hls
        clear hd hx hls
        have fin : gatherGo (-1000000) [] ls = none → GatherPost w (gatherP (-1000000) ls) (.returned (.tuple #[.int .i64 (1000000), .slice none 0 0])) wr := fun e => by
          refine ⟨hB, .slice none 0 0, by unfold gatherP; rw [e]; try rfl, ?_, fun b hb => by cases hb⟩
          unfold gatherP
          rw [e]
          exact ⟨none, 0, rfl, Nat.le_refl _, by omega, fun h => by simp at h⟩
        have HF := hid fin
        clear fin
        by_cases hq1 : x = 1000000
        · have hb1 : (x == 1000000) = true := by rw [beq_iff_eq]; exact hq1
          have hR : gatherGo (-1000000) [] ls = none := by rw [HA.out, HD.out, gatherGo, if_pos (.inl (by rw [hq1]; try rfl))]
          have HR := hid hR
          clear hR hq1 CI1 CI2
          go_wp2_with fail
          go_ret2
          exact HF.out HR.out
        · have hb1 : (x == 1000000) = false := by rw [beq_eq_false_iff_ne]; exact hq1
          have hq1' : x ≠ -(-1000000) := fun e => hq1 (by rw [e]; try rfl)
          by_cases hq2 : -x ∈ out
          · have hR : gatherGo (-1000000) [] ls = none := by rw [HA.out, HD.out, gatherGo, if_pos (.inr hq2)]
            rw [decide_eq_true hq2] at CI1
            have HR := hid hR
            clear hR hq1 hq1' hq2 CI2
            go_wp2_with fail
            refine CI1.mono ?_
            rintro e w' ⟨rfl, hw'⟩
            obtain rfl : wr = w' := hw'.symm
            go_wp2_with fail
            go_ret2
            exact HF.out HR.out
          · rw [decide_eq_false hq2] at CI1
            by_cases hq3 : x = -1000000
            · have hb2 : (x != -1000000) = false := by simp [hq3]
              have hR : gatherGo (-1000000) [] ls = gatherGo (-1000000) out (ls.drop (j + 1)) := by
                rw [HA.out, HD.out, gatherGo, if_neg (fun h => h.elim hq1' hq2), if_neg (fun h => h.1 hq3)]
              have HR := hid hR
              clear hR hq1 hq1' hq2 hq3 CI2
              go_wp2_with fail
              refine CI1.mono ?_
              rintro e w' ⟨rfl, hw'⟩
              obtain rfl : wr = w' := hw'.symm
              go_wp2_with fail
              go_roundg (ls.length - (j + 1))
              case measure => omega
              case rel => exact ⟨j + 1, out, Ao, co, by omega, by omega, by go_num, rfl, hB, hO, by omega, hob, ⟨HR.out⟩⟩
            · have hb2 : (x != -1000000) = true := by simp [hq3]
              by_cases hq4 : x ∈ out
              · rw [decide_eq_true hq4] at CI2
                have hR : gatherGo (-1000000) [] ls = gatherGo (-1000000) out (ls.drop (j + 1)) := by
                  rw [HA.out, HD.out, gatherGo, if_neg (fun h => h.elim hq1' hq2), if_neg (fun h => h.2 hq4)]
                have HR := hid hR
                clear hR hq1 hq1' hq2 hq3 hq4
                go_wp2_with fail
                refine CI1.mono ?_
                rintro e w' ⟨rfl, hw'⟩
                obtain rfl : wr = w' := hw'.symm
                clear CI1
                go_wp2_with fail
                refine CI2.mono ?_
                rintro e w' ⟨rfl, hw'⟩
                obtain rfl : wr = w' := hw'.symm
                go_wp2_with fail
                go_roundg (ls.length - (j + 1))
                case measure => omega
                case rel => exact ⟨j + 1, out, Ao, co, by omega, by omega, by go_num, rfl, hB, hO, by omega, hob, ⟨HR.out⟩⟩
              · rw [decide_eq_false hq4] at CI2
                have hR : gatherGo (-1000000) [] ls = gatherGo (-1000000) (out ++ [x]) (ls.drop (j + 1)) := by
                  rw [HA.out, HD.out, gatherGo, if_neg (fun h => h.elim hq1' hq2), if_pos ⟨hq3, hq4⟩]
                have HR := hid hR
                have HOB := hid hob
                have hbs := hB.size
                clear hR hq1 hq1' hq2 hq3 hq4 hob
                go_wp2_with fail
                refine CI1.mono ?_
                rintro e w' ⟨rfl, hw'⟩
                obtain rfl : wr = w' := hw'.symm
                clear CI1
                go_wp2_with fail
                refine CI2.mono ?_
                rintro e w' ⟨rfl, hw'⟩
                obtain rfl : wr = w' := hw'.symm
                clear CI2
                go_wp2_with (at_builtin; refine append_one w.heap.size rfl _ _ 26 3 (.int .i64 0) 1 8 rfl Try.underlying26 info3 rfl (by decide) (by decide) (.slice Ao out.length co) out.length (nums out) #[.int .i64 x] rfl rfl rfl (by intro u hu; simp at hu; subst hu; rfl) hO (by omega) (by omega) ?_; intro g cap w3 hO3 hG3 hg3 hbg hlt3)
                have hB3 : Below w.heap.size w w3 := hB.grown hG3 hB.size (fun q e => (hO.lt q e).1)
                rw [nums_snoc] at hO3
                go_roundg (ls.length - (j + 1))
                case measure => omega
                case rel =>
                  refine ⟨j + 1, out ++ [x], some ⟨g, 0, none⟩, cap, by omega, by omega, by go_num, by simp, hB3, by simpa using hO3, by simp; omega, (fun y hy => ?_), ⟨HR.out⟩⟩
                  rw [List.mem_append, List.mem_singleton] at hy
                  rcases hy with hy | rfl
                  · exact HOB.out y hy
                  · exact ⟨hx1, hx2⟩
      · have hltz : ¬ (j : Int) < (ls.length : Int) := by omega
        have hR : gatherP (-1000000) ls = gatherEnd (-1000000) out := by unfold gatherP; rw [HA.out, List.drop_eq_nil_of_le (by omega)]; rfl
        have HR := hid hR
        clear hR hob
        have nilPost : ∀ r : Int, gatherEnd (-1000000) out = (r, []) → GatherPost w (gatherP (-1000000) ls) (.returned (.tuple #[.int .i64 r, .slice none 0 0])) wr := fun r e => by
          refine ⟨hB, .slice none 0 0, by rw [HR.out, e], ?_, fun b hb => by cases hb⟩
          rw [HR.out, e]
          exact ⟨none, 0, rfl, Nat.le_refl _, by omega, fun h => by simp at h⟩
        have HN := hid nilPost
        clear nilPost
        by_cases h0 : out.length = 0
        · have e0 : out = [] := List.eq_nil_of_length_eq_zero h0
          have hz0 : ((out.length : Int) == 0) = true := by rw [h0]; rfl
          have HE := hid e0
          clear e0 h0 hO hi
          go_wp2_with fail
          go_ret2
          exact HN.out _ (by rw [HE.out]; rfl)
        · have hz0 : ((out.length : Int) == 0) = false := by rw [beq_eq_false_iff_ne]; omega
          by_cases h1 : out.length = 1
          · obtain ⟨x, hx⟩ : ∃ x, out = [x] := by
              match out, h1 with
              | [x], _ => exact ⟨x, rfl⟩
            obtain ⟨b, off, rfl, hc0, -⟩ := hi.at_ 0 x (by rw [hx]; rfl)
            rw [Nat.add_zero] at hc0
            have hz1 : ((out.length : Int) == 1) = true := by rw [h1]; rfl
            have hz2 : (0 : Int) < (out.length : Int) := by omega
            have HE := hid hx
            clear hx h0 h1 hO hi
            go_wp2_with fail
            go_ret2
            exact HN.out _ (by rw [HE.out]; rfl)
          · have hz1 : ((out.length : Int) == 1) = false := by rw [beq_eq_false_iff_ne]; omega
            have hE : gatherEnd (-1000000) out = (0, out) := by
              match out, h0, h1 with
              | [], h0, _ => exact absurd rfl h0
              | [_], _, h1 => exact absurd rfl h1
              | _ :: _ :: _, _, _ => rfl
            have HE := hid hE
            have HI := hid hi
            have HO' := hid hO
            clear h0 h1 hE hi hO
            go_wp2_with fail
            go_ret2
            refine ⟨hB, .slice Ao out.length co, by rw [HR.out, HE.out]; rfl, by rw [HR.out, HE.out]; exact HI.out, fun q hq => ?_⟩
            have := (HO'.out.lt q hq).1
            omega
  · have hz : (k == 2) = false := by simpa using hk
    clear hk
    go_enter Try.func98, Try.ntmps98
    go_wp2_with fail
    go_loopg [8, 9] ls.length (fun gg s8 s9 wr => ∃ (j : Nat) (out : List Int) (Ao : Option Addr) (co : Nat), j ≤ ls.length ∧ ls.length - j ≤ gg ∧ s9 = .int .i64 j ∧ s8 = .slice Ao out.length co ∧ Below w.heap.size w wr ∧
      wr.ownsRow w.heap.size 3 1 (.slice Ao out.length co) out.length (nums out) ∧ out.length ≤ j ∧ Aside (∀ x ∈ out, -1000000 ≤ x ∧ x ≤ 1000000) ∧ Rem (gatherGo (1000000) [] ls) (gatherGo (1000000) out (ls.drop j)))
    case atStart => exact ⟨0, [], none, 0, Nat.zero_le _, by omega, rfl, rfl, Below.refl _ _, World.ownsRow_nil _ _ _ _, Nat.le_refl _, (fun x hx => by cases hx), ⟨rfl⟩⟩
    case round =>
      obtain ⟨j, out, Ao, co, hj, hg, rfl, rfl, hB, hO, hok, hob, HA⟩ := hrel
      have hi : IntsAt wr (.slice Ao out.length co) out := ints_of_own hO (fun y hy => by have := hob y hy; unfold I64; omega) (by omega)
      by_cases hlt : j < ls.length
      · obtain ⟨x, hx, hmem, hd⟩ := nth hlt
        obtain ⟨b, off, rfl, hc0, -⟩ := (h.keep (keeps_below hB)).at_ j x hx
        obtain ⟨hx1, hx2⟩ := hls x hmem
        have hltz : (j : Int) < (ls.length : Int) := by omega
        have h4 : IntKind.i64.wrap (-x) = -x := IntWalk.i64_in _ (by omega)
        have CI1 := In_any _ out (-x) wr hi
        have CI2 := In_any _ out x wr hi
        have HD := hid hd
        have HL := hid hls
        clear hd hx hls
        have fin : gatherGo (1000000) [] ls = none → GatherPost w (gatherP (1000000) ls) (.returned (.tuple #[.int .i64 (-1000000), .slice none 0 0])) wr := fun e => by
          refine ⟨hB, .slice none 0 0, by unfold gatherP; rw [e]; try rfl, ?_, fun b hb => by cases hb⟩
          unfold gatherP
          rw [e]
          exact ⟨none, 0, rfl, Nat.le_refl _, by omega, fun h => by simp at h⟩
        have HF := hid fin
        clear fin
        by_cases hq1 : x = -1000000
        · have hb1 : (x == -1000000) = true := by rw [beq_iff_eq]; exact hq1
          have hR : gatherGo (1000000) [] ls = none := by rw [HA.out, HD.out, gatherGo, if_pos (.inl (by rw [hq1]; try rfl))]
          have HR := hid hR
          clear hR hq1 CI1 CI2
          go_wp2_with fail
          go_ret2
          exact HF.out HR.out
        · have hb1 : (x == -1000000) = false := by rw [beq_eq_false_iff_ne]; exact hq1
          have hq1' : x ≠ -(1000000) := fun e => hq1 (by rw [e]; try rfl)
          by_cases hq2 : -x ∈ out
          · have hR : gatherGo (1000000) [] ls = none := by rw [HA.out, HD.out, gatherGo, if_pos (.inr hq2)]
            rw [decide_eq_true hq2] at CI1
            have HR := hid hR
            clear hR hq1 hq1' hq2 CI2
            go_wp2_with fail
            refine CI1.mono ?_
            rintro e w' ⟨rfl, hw'⟩
            obtain rfl : wr = w' := hw'.symm
            go_wp2_with fail
            go_ret2
            exact HF.out HR.out
          · rw [decide_eq_false hq2] at CI1
            by_cases hq3 : x = 1000000
            · have hb2 : (x != 1000000) = false := by simp [hq3]
              have hR : gatherGo (1000000) [] ls = gatherGo (1000000) out (ls.drop (j + 1)) := by
                rw [HA.out, HD.out, gatherGo, if_neg (fun h => h.elim hq1' hq2), if_neg (fun h => h.1 hq3)]
              have HR := hid hR
              clear hR hq1 hq1' hq2 hq3 CI2
              go_wp2_with fail
              refine CI1.mono ?_
              rintro e w' ⟨rfl, hw'⟩
              obtain rfl : wr = w' := hw'.symm
              go_wp2_with fail
              go_roundg (ls.length - (j + 1))
              case measure => omega
              case rel => exact ⟨j + 1, out, Ao, co, by omega, by omega, by go_num, rfl, hB, hO, by omega, hob, ⟨HR.out⟩⟩
            · have hb2 : (x != 1000000) = true := by simp [hq3]
              by_cases hq4 : x ∈ out
              · rw [decide_eq_true hq4] at CI2
                have hR : gatherGo (1000000) [] ls = gatherGo (1000000) out (ls.drop (j + 1)) := by
                  rw [HA.out, HD.out, gatherGo, if_neg (fun h => h.elim hq1' hq2), if_neg (fun h => h.2 hq4)]
                have HR := hid hR
                clear hR hq1 hq1' hq2 hq3 hq4
                go_wp2_with fail
                refine CI1.mono ?_
                rintro e w' ⟨rfl, hw'⟩
                obtain rfl : wr = w' := hw'.symm
                clear CI1
                go_wp2_with fail
                refine CI2.mono ?_
                rintro e w' ⟨rfl, hw'⟩
                obtain rfl : wr = w' := hw'.symm
                go_wp2_with fail
                go_roundg (ls.length - (j + 1))
                case measure => omega
                case rel => exact ⟨j + 1, out, Ao, co, by omega, by omega, by go_num, rfl, hB, hO, by omega, hob, ⟨HR.out⟩⟩
              · rw [decide_eq_false hq4] at CI2
                have hR : gatherGo (1000000) [] ls = gatherGo (1000000) (out ++ [x]) (ls.drop (j + 1)) := by
                  rw [HA.out, HD.out, gatherGo, if_neg (fun h => h.elim hq1' hq2), if_pos ⟨hq3, hq4⟩]
                have HR := hid hR
                have HOB := hid hob
                have hbs := hB.size
                clear hR hq1 hq1' hq2 hq3 hq4 hob
                go_wp2_with fail
                refine CI1.mono ?_
                rintro e w' ⟨rfl, hw'⟩
                obtain rfl : wr = w' := hw'.symm
                clear CI1
                go_wp2_with fail
                refine CI2.mono ?_
                rintro e w' ⟨rfl, hw'⟩
                obtain rfl : wr = w' := hw'.symm
                clear CI2
                go_wp2_with (at_builtin; refine append_one w.heap.size rfl _ _ 26 3 (.int .i64 0) 1 8 rfl Try.underlying26 info3 rfl (by decide) (by decide) (.slice Ao out.length co) out.length (nums out) #[.int .i64 x] rfl rfl rfl (by intro u hu; simp at hu; subst hu; rfl) hO (by omega) (by omega) ?_; intro g cap w3 hO3 hG3 hg3 hbg hlt3)
                have hB3 : Below w.heap.size w w3 := hB.grown hG3 hB.size (fun q e => (hO.lt q e).1)
                rw [nums_snoc] at hO3
                go_roundg (ls.length - (j + 1))
                case measure => omega
                case rel =>
                  refine ⟨j + 1, out ++ [x], some ⟨g, 0, none⟩, cap, by omega, by omega, by go_num, by simp, hB3, by simpa using hO3, by simp; omega, (fun y hy => ?_), ⟨HR.out⟩⟩
                  rw [List.mem_append, List.mem_singleton] at hy
                  rcases hy with hy | rfl
                  · exact HOB.out y hy
                  · exact ⟨hx1, hx2⟩
      · have hltz : ¬ (j : Int) < (ls.length : Int) := by omega
        have hR : gatherP (1000000) ls = gatherEnd (1000000) out := by unfold gatherP; rw [HA.out, List.drop_eq_nil_of_le (by omega)]; rfl
        have HR := hid hR
        clear hR hob
        have nilPost : ∀ r : Int, gatherEnd (1000000) out = (r, []) → GatherPost w (gatherP (1000000) ls) (.returned (.tuple #[.int .i64 r, .slice none 0 0])) wr := fun r e => by
          refine ⟨hB, .slice none 0 0, by rw [HR.out, e], ?_, fun b hb => by cases hb⟩
          rw [HR.out, e]
          exact ⟨none, 0, rfl, Nat.le_refl _, by omega, fun h => by simp at h⟩
        have HN := hid nilPost
        clear nilPost
        by_cases h0 : out.length = 0
        · have e0 : out = [] := List.eq_nil_of_length_eq_zero h0
          have hz0 : ((out.length : Int) == 0) = true := by rw [h0]; rfl
          have HE := hid e0
          clear e0 h0 hO hi
          go_wp2_with fail
          go_ret2
          exact HN.out _ (by rw [HE.out]; rfl)
        · have hz0 : ((out.length : Int) == 0) = false := by rw [beq_eq_false_iff_ne]; omega
          by_cases h1 : out.length = 1
          · obtain ⟨x, hx⟩ : ∃ x, out = [x] := by
              match out, h1 with
              | [x], _ => exact ⟨x, rfl⟩
            obtain ⟨b, off, rfl, hc0, -⟩ := hi.at_ 0 x (by rw [hx]; rfl)
            rw [Nat.add_zero] at hc0
            have hz1 : ((out.length : Int) == 1) = true := by rw [h1]; rfl
            have hz2 : (0 : Int) < (out.length : Int) := by omega
            have HE := hid hx
            clear hx h0 h1 hO hi
            go_wp2_with fail
            go_ret2
            exact HN.out _ (by rw [HE.out]; rfl)
          · have hz1 : ((out.length : Int) == 1) = false := by rw [beq_eq_false_iff_ne]; omega
            have hE : gatherEnd (1000000) out = (0, out) := by
              match out, h0, h1 with
              | [], h0, _ => exact absurd rfl h0
              | [_], _, h1 => exact absurd rfl h1
              | _ :: _ :: _, _, _ => rfl
            have HE := hid hE
            have HI := hid hi
            have HO' := hid hO
            clear h0 h1 hE hi hO
            go_wp2_with fail
            go_ret2
            refine ⟨hB, .slice Ao out.length co, by rw [HR.out, HE.out]; rfl, by rw [HR.out, HE.out]; exact HI.out, fun q hq => ?_⟩
            have := (HO'.out.lt q hq).1
            omega
end Go.Proofs.Ytnlobmepajakcaa
