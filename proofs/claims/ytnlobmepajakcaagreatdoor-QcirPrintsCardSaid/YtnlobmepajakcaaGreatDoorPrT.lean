/- What the document's Print of qcir returns; the conditions: at most 300 gates with 1,500 literals. -/
import Derived.Test.YtnlobmepajakcaaGreatDoorPrS
import Derived.Test.YtnlobmepajakcaaGreatDoorRefM
set_option linter.unusedVariables false
set_option linter.unusedSimpArgs false
namespace Go.Proofs.YtnlobmepajakcaaGreatDoor
open Go.RowKit Go.Shelf
attribute [local go_sem] Oper.semAt_some

/-- The document's printer between two pieces: the net's box. -/
structure PrJ (w : World) (box : Array Value) (wr : World) : Prop where
  below : Below w.heap.size w wr
  box : wr.heap[w.heap.size]? = some (.cells box 40 (0, 0))
theorem PrJ.under {w : World} {box : Array Value} {wr w' : World} (h : PrJ w box wr) (hB : Below wr.heap.size wr w') : PrJ w box w' :=
  ⟨below_then h.below h.below.size hB, row_below h.box hB⟩
theorem cat_str (a b : Bs) (x y : ByteArray) (hx : x = ⟨a.toArray⟩) (hy : y = ⟨b.toArray⟩) : x ++ y = ⟨(a ++ b).toArray⟩ := by rw [hx, hy, ba_app]
theorem may_vars {N : PNet} (hM : mayP N = true) : ∀ g ∈ N.gates, 1 ≤ g.var ∧ g.var ≤ 65536 := fun g hg => by
  obtain ⟨hpre, hlits, S, hS, hout⟩ := mayP_pre hM
  have := addB_iff.1 ((good_of_may _ hS).each g hg).2
  omega
set_option maxRecDepth 100000 in
set_option maxHeartbeats 4000000 in
theorem PrintR_any (v : Value) (N : PNet) (w : World) (h : NetAt w v N) (hgl : N.gates.length ≤ 300) (hl : litSum N.gates ≤ 1500) :
    Calls Tryz.prog 27 #[v] w fun e w' => e = .returned (.tuple #[.string ⟨(printP N).1.toArray⟩, .int .i64 (printP N).2]) ∧ Below w.heap.size w w' := by
  obtain ⟨vp, vg, rfl, ho, hp, hgt⟩ := h
  obtain ⟨Ap, cp, rfl, hlp, hcp⟩ := hp.form
  obtain ⟨Ag, cg, rfl, hlg, hcg⟩ := hgt.form
  obtain ⟨w1, hw1, -, -, hz1, hB1, q1⟩ := new_block w #[.slice Ap N.pre.length cp, .slice Ag N.gates.length cg, .int .i64 N.out] 40
  have hN1 : NetAt w1 (.agg #[.slice Ap N.pre.length cp, .slice Ag N.gates.length cg, .int .i64 N.out]) N := NetAt.keep ⟨_, _, rfl, ho, hp, hgt⟩ (keeps_below hB1)
  have CM := MayR_any _ N w1 hN1 (by omega) (by omega)
  have k0 := cell_row q1 (j := 0) rfl
  have k1 := cell_row q1 (j := 1) rfl
  have k2 := cell_row q1 (j := 2) rfl
  cases hM : mayP N with
  | false =>
    rw [hM] at CM
    have HP : printP N = ([], 2) := by unfold printP; rw [if_neg (by rw [hM]; simp)]
    have HP := hid HP
    clear hM
    go_enter Tryz.func27, Tryz.ntmps27
    go_wp2_with (first | (go_at_call 21; refine CM.mono ?_; rintro e W1 ⟨rfl, hB2⟩) | fail)
    go_ret2
    exact ⟨by rw [HP.out]; rfl, below_then hB1 hB1.size hB2⟩
  | true =>
    rw [hM] at CM
    have F := hid (pf_of hM)
    have HT := hid (may_text hM hgl hl)
    have HM := hid hM
    clear hM
    go_enter Tryz.func27, Tryz.ntmps27
    go_wp2_with fail
    refine CM.mono ?_
    rintro e W1 ⟨rfl, hB2⟩
    have P0 : PrJ w #[.slice Ap N.pre.length cp, .slice Ag N.gates.length cg, .int .i64 N.out] W1 := ⟨below_then hB1 hB1.size hB2, row_below q1 hB2⟩
    clear hN1 CM k0 k1 k2 q1 hw1 hz1 hB1 hB2
    go_wp2_with fail
    go_loopg [4, 5] N.pre.length (fun gg s4 s5 wr => ∃ (j : Nat) (T : Bs), j ≤ N.pre.length ∧ N.pre.length - j ≤ gg ∧ s5 = .int .i64 (j : Int) ∧ s4 = .string ⟨T.toArray⟩ ∧ PrJ w #[.slice Ap N.pre.length cp, .slice Ag N.gates.length cg, .int .i64 N.out] wr ∧ Hid (T = headP ++ (N.pre.take j).flatMap blockS))
    case atStart => exact ⟨0, headP, Nat.zero_le _, by omega, rfl, rfl, P0, by show _ = _; simp⟩
    case round =>
      obtain ⟨j, T, hj, hg, rfl, rfl, P, hT⟩ := hrel
      have hTl : T.length ≤ 20000000 := by
        rw [hT.out]
        have h1 := flat_take blockS N.pre j
        have h2 := F.out.len
        unfold textP at h2
        simp only [List.length_append] at h2 ⊢
        omega
      have c0 : wr.cell? ⟨w.heap.size, 0, none⟩ = some (.slice Ap N.pre.length cp) := cell_row P.box (j := 0) rfl
      by_cases hlt : j < N.pre.length
      · have hltz : (j : Int) < (N.pre.length : Int) := by omega
        obtain ⟨x, hxj, hxm, -⟩ := nth hlt
        obtain ⟨bp, off, vi, rfl, hc0, hc1, hi⟩ := hp.at_ j x hxj
        replace hc0 := keeps_below P.below _ _ hc0
        replace hc1 := keeps_below P.below _ _ hc1
        obtain ⟨Ai, ci, rfl, hli, hci⟩ := hi.form
        have hx := F.out.vars x hxm
        have hll := litsP_le x.vars hx.1 (by omega)
        have CL := listR_any _ x.vars wr (hi.keep (keeps_below P.below)) hx.1 (by omega)
        have hsn := hid (flat_snoc blockS hxj)
        cases hex : x.ex with
        | true =>
          rw [hex] at hc0
          have HEX := hid hex
          generalize hL : litsP x.vars = L at CL hll
          have HL := hid hL
          clear hex hxj hxm hx hi hL
          go_wp2_with fail
          refine CL.mono ?_
          rintro e w5 ⟨rfl, hB5⟩
          go_wp2_with fail
          go_roundg (N.pre.length - (j + 1))
          case measure => omega
          case rel =>
            refine ⟨j + 1, T ++ [101, 120, 105, 115, 116, 115, 40] ++ L ++ [41, 10], by omega, by omega, by go_num, str_eq ?_, P.under hB5, ?_⟩
            · exact cat_str _ _ _ _ (cat_str _ _ _ _ (cat_str _ _ _ _ rfl rfl) rfl) rfl
            · show _ = _
              rw [hsn.out, hT.out, show blockS x = wExists ++ ([40] ++ litsP x.vars ++ [41, 10]) by unfold blockS listS; rw [HEX.out]; rfl, HL.out]
              unfold wExists
              simp
        | false =>
          rw [hex] at hc0
          have HEX := hid hex
          generalize hL : litsP x.vars = L at CL hll
          have HL := hid hL
          clear hex hxj hxm hx hi hL
          go_wp2_with fail
          refine CL.mono ?_
          rintro e w5 ⟨rfl, hB5⟩
          go_wp2_with fail
          go_roundg (N.pre.length - (j + 1))
          case measure => omega
          case rel =>
            refine ⟨j + 1, T ++ [102, 111, 114, 97, 108, 108, 40] ++ L ++ [41, 10], by omega, by omega, by go_num, str_eq ?_, P.under hB5, ?_⟩
            · exact cat_str _ _ _ _ (cat_str _ _ _ _ (cat_str _ _ _ _ rfl rfl) rfl) rfl
            · show _ = _
              rw [hsn.out, hT.out, show blockS x = wForall ++ ([40] ++ litsP x.vars ++ [41, 10]) by unfold blockS listS; rw [HEX.out]; rfl, HL.out]
              unfold wForall
              simp
      · have hltz : ¬ (j : Int) < (N.pre.length : Int) := by omega
        have hTT : T = headP ++ N.pre.flatMap blockS := by rw [hT.out, List.take_of_length_le (by omega : N.pre.length ≤ j)]
        have c2 : wr.cell? ⟨w.heap.size, 2, none⟩ = some (.int .i64 N.out) := cell_row P.box (j := 2) rfl
        obtain ⟨w4, hw4, -, -, hz4, hB4, q4⟩ := new_block wr #[.int .i64 N.out] 3
        have P4 := P.under hB4
        have hO := F.out.out
        have CL := listR_any (.slice (some ⟨wr.heap.size, 0, none⟩) 1 1) [N.out] w4 (ints_oneC q4 (by unfold I64; omega)) (by intro x hx; rw [List.mem_singleton.1 hx]; exact hO) (by simp)
        have hll := litsP_le [N.out] (by intro x hx; rw [List.mem_singleton.1 hx]; exact hO) (by simp)
        generalize hL : litsP [N.out] = L at CL hll
        have HL := hid hL
        have HO := hid hO
        have HTT := hid hTT
        clear hO q4 hz4 hL hTT hT
        go_wp2_with fail
        refine CL.mono ?_
        rintro e w5 ⟨rfl, hB5⟩
        have P5 := P4.under hB5
        have c1 : w5.cell? ⟨w.heap.size, 1, none⟩ = some (.slice Ag N.gates.length cg) := cell_row P5.box (j := 1) rfl
        clear CL hB5 hw4 P4 c2 c0 P hB4 P0
        generalize wr = W2 at *
        have hEO := hid (show headP ++ N.pre.flatMap blockS ++ (wOutput ++ listS [N.out]) = T ++ [111, 117, 116, 112, 117, 116, 40] ++ L ++ [41, 10] by
          rw [HTT.out, ← HL.out]; unfold listS wOutput; simp)
        go_wp2_with fail
        clear c1
        go_loopg [4, 6] N.gates.length (fun gg s4 s6 wr => ∃ (i : Nat) (T2 : Bs), i ≤ N.gates.length ∧ N.gates.length - i ≤ gg ∧ s6 = .int .i64 (i : Int) ∧ s4 = .string ⟨T2.toArray⟩ ∧ PrJ w #[.slice Ap N.pre.length cp, .slice Ag N.gates.length cg, .int .i64 N.out] wr ∧
          Hid (T2 = headP ++ N.pre.flatMap blockS ++ (wOutput ++ listS [N.out]) ++ (N.gates.take i).flatMap gateS))
        case atStart => exact ⟨0, T ++ [111, 117, 116, 112, 117, 116, 40] ++ L ++ [41, 10], Nat.zero_le _, by omega, rfl, str_eq (cat_str _ _ _ _ (cat_str _ _ _ _ (cat_str _ _ _ _ rfl rfl) rfl) rfl), P5, by show _ = _; rw [hEO.out]; simp⟩
        case round =>
          obtain ⟨i, T2, hi, hgg, rfl, rfl, P, hT2⟩ := hrel
          have hT2l : T2.length ≤ 20000000 := by
            rw [hT2.out]
            have h1 := flat_take gateS N.gates i
            have h2 := F.out.len
            unfold textP at h2
            simp only [List.length_append] at h2 ⊢
            omega
          have c1 : wr.cell? ⟨w.heap.size, 1, none⟩ = some (.slice Ag N.gates.length cg) := cell_row P.box (j := 1) rfl
          by_cases hlti : i < N.gates.length
          · have hltiz : (i : Int) < (N.gates.length : Int) := by omega
            obtain ⟨x, hxi, hxm, -⟩ := nth hlti
            obtain ⟨bg, og, vi, rfl, k0, k1, k2, hgi, hg64, hkd0, hkd1⟩ := hgt.at_ i x hxi
            replace k0 := keeps_below P.below _ _ k0
            replace k1 := keeps_below P.below _ _ k1
            replace k2 := keeps_below P.below _ _ k2
            obtain ⟨Ai, ci, rfl, hli, hci⟩ := hgi.form
            obtain ⟨hv, ⟨hkk1, hkk2⟩, hil, hin⟩ := F.out.gates x hxm
            have hv1 := may_vars HM.out x hxm
            have hsn := hid (flat_snoc gateS hxi)
            obtain ⟨xv, xk, xi⟩ := x
            simp only [] at *
            obtain ⟨vn, rfl⟩ := Int.eq_ofNat_of_zero_le (show 0 ≤ xv by omega)
            obtain ⟨kn, rfl⟩ : ∃ kn : Nat, xk = (kn : Int) + 1 := ⟨(xk - 1).toNat, by omega⟩
            obtain ⟨w9, hw9, -, -, hz9, hB9, q9⟩ := new_block wr #[.int .i64 (vn : Int), .int .u8 ((kn : Int) + 1), .slice Ai xi.length ci] 88
            have P9 := (P.under hB9)
            have hkn : kn < 4 := by omega
            have hwr : IntKind.u8.wrap (kn : Int) = (kn : Int) := IntWalk.u8_in _ (by omega)
            have hkz : (kn : Int) < 4 := by omega
            have hll := litsP_le xi hil (by omega)
            have hkl := kindW_len ((kn : Int) + 1)
            have hdl : (digP vn).length ≤ 10 := digP_len (by omega)
            have P9d : PrJ w #[.slice Ap N.pre.length cp, .slice (some ⟨bg, og, none⟩) N.gates.length cg, .int .i64 N.out] w9.drew := P9.under ((Below.refl _ _).drew)
            have q9d : w9.drew.heap[wr.heap.size]? = some (.cells #[.int .i64 (vn : Int), .int .u8 ((kn : Int) + 1), .slice Ai xi.length ci] 88 (0, 0)) := q9
            have hSk : ∀ W : World, W.heap[wr.heap.size]? = some (.cells #[.int .i64 (vn : Int), .int .u8 ((kn : Int) + 1), .slice Ai xi.length ci] 88 (0, 0)) →
                W.cell? ⟨wr.heap.size, 0, none⟩ = some (.int .i64 (vn : Int)) ∧ W.cell? ⟨wr.heap.size, 1, none⟩ = some (.int .u8 ((kn : Int) + 1)) ∧ W.cell? ⟨wr.heap.size, 2, none⟩ = some (.slice Ai xi.length ci) := fun W hq =>
              ⟨cell_row hq (j := 0) rfl, cell_row hq (j := 1) rfl, cell_row hq (j := 2) rfl⟩
            have hWc : ∀ (W : World) (a : Nat), W.heap[a]? = some (.cells #[sv wAnd, sv wOr, sv wXor, sv wIte] 9 (0, 0)) → W.cell? ⟨a, kn, none⟩ = some (.string ⟨(kindW ((kn : Int) + 1)).toArray⟩) := fun W a hq => by
              have : kn = 0 ∨ kn = 1 ∨ kn = 2 ∨ kn = 3 := by omega
              rcases this with rfl | rfl | rfl | rfl <;> exact cell_row hq rfl
            have CI := numberR_any vn w9.drew (by omega)
            have hLS : ∀ W, Below w9.drew.heap.size w9.drew W → Calls Tryz.prog 61 #[.slice Ai xi.length ci] W fun e w' => e = .returned (.string ⟨(litsP xi).toArray⟩) ∧ Below W.heap.size W w' := fun W hW =>
              listR_any _ xi W (hgi.keep (keeps_below (P9d.under hW).below)) hil (by omega)
            have hEq : gateS ⟨(vn : Int), ((kn : Int) + 1), xi⟩ = digP vn ++ [32, 61, 32] ++ kindW ((kn : Int) + 1) ++ [40] ++ litsP xi ++ [41, 10] := by
              have hI : intP (vn : Int) = digP vn := by unfold intP; rw [if_neg (by omega)]; rfl
              unfold gateS listS
              rw [hI]
              simp
            have HH := hid (And.intro hSk (And.intro hWc (And.intro hLS (And.intro P9d (And.intro q9d hEq)))))
            generalize hKW : kindW ((kn : Int) + 1) = KW at hkl hWc HH hEq
            generalize hDG : digP vn = DG at hdl CI HH hEq
            generalize hLI : litsP xi = LI at hll hLS HH hEq
            have hS0 := hSk _ q9d
            clear hSk hWc hLS hgi hil q9d P9d P9 hxm hxi hin hEq q9 hKW hDG hLI hv hv1 hkk1 hkk2 hg64 hkd0 hkd1
            go_wp2_with fail
            refine wp_region_held_drew (S := (fun W => W.cell? ⟨wr.heap.size, 0, none⟩ = some (.int .i64 (vn : Int)) ∧ W.cell? ⟨wr.heap.size, 1, none⟩ = some (.int .u8 ((kn : Int) + 1)) ∧ W.cell? ⟨wr.heap.size, 2, none⟩ = some (.slice Ai xi.length ci))) (by kernel_rfl) hS0 (fun hHeld => ?_)
            refine wpAnyH_take (i := 0) (v := ?vt1) rfl (by kernel_rfl) (by kernel_rfl) (by kernel_rfl) (fun _ _ _ h => h) (Or.inl ⟨by rfl, ?yt1⟩) hHeld ?_
            case yt1 => (intro w' hSw; (try dsimp only at hSw); go_simp); (try with_reducible rfl)
            try simp only [Act.put, List.setIfInBounds_toArray, List.set_cons_zero, List.set_cons_succ]
            refine wpAnyH_take (i := 1) (v := ?vt2) rfl (by kernel_rfl) (by kernel_rfl) (by kernel_rfl) (fun _ _ _ h => h) (Or.inl ⟨by rfl, ?yt2⟩) hHeld ?_
            case yt2 => (intro w' hSw; (try dsimp only at hSw); go_simp); (try with_reducible rfl)
            try simp only [Act.put, List.setIfInBounds_toArray, List.set_cons_zero, List.set_cons_succ]
            refine wpAnyH_take (i := 2) (v := ?vt3) rfl (by kernel_rfl) (by kernel_rfl) (by kernel_rfl) (fun _ _ _ h => h) (Or.inl ⟨by rfl, ?yt3⟩) hHeld ?_
            case yt3 => (intro w' hSw; (try dsimp only at hSw); go_simp); (try with_reducible rfl)
            try simp only [Act.put, List.setIfInBounds_toArray, List.set_cons_zero, List.set_cons_succ]
            refine wpAnyH_take (i := 7) (v := ?vt4) rfl (by kernel_rfl) (by kernel_rfl) (by kernel_rfl) (fun _ _ _ h => h) (Or.inl ⟨by rfl, ?yt4⟩) hHeld ?_
            case yt4 => (intro w' hSw; (try dsimp only at hSw); go_simp); (try with_reducible rfl)
            try simp only [Act.put, List.setIfInBounds_toArray, List.set_cons_zero, List.set_cons_succ]
            refine wpAnyH_take (i := 8) (v := ?vt5) rfl (by kernel_rfl) (by kernel_rfl) (by kernel_rfl) (fun _ _ _ h => h) (Or.inl ⟨by rfl, ?yt5⟩) hHeld ?_
            case yt5 => (intro w' hSw; (try dsimp only at hSw); go_simp); (try with_reducible rfl)
            try simp only [Act.put, List.setIfInBounds_toArray, List.set_cons_zero, List.set_cons_succ]
            refine wpAnyH_take (i := 9) (v := ?vt6) rfl (by kernel_rfl) (by kernel_rfl) (by kernel_rfl) (fun _ _ _ h => h) (Or.inl ⟨by rfl, ?yt6⟩) hHeld ?_
            case yt6 => (intro w' hSw; (try dsimp only at hSw); go_simp); (try with_reducible rfl)
            try simp only [Act.put, List.setIfInBounds_toArray, List.set_cons_zero, List.set_cons_succ]
            refine wpAnyH_take (i := 14) (v := ?vt7) rfl (by kernel_rfl) (by kernel_rfl) (by kernel_rfl) (fun _ _ _ h => h) (Or.inl ⟨by rfl, ?yt7⟩) hHeld ?_
            case yt7 => (intro w' hSw; (try dsimp only at hSw); go_simp); (try with_reducible rfl)
            try simp only [Act.put, List.setIfInBounds_toArray, List.set_cons_zero, List.set_cons_succ]
            refine wpAnyH_take (i := 15) (v := ?vt8) rfl (by kernel_rfl) (by kernel_rfl) (by kernel_rfl) (fun _ _ _ h => h) (Or.inl ⟨by rfl, ?yt8⟩) hHeld ?_
            case yt8 => (intro w' hSw; (try dsimp only at hSw); go_simp); (try with_reducible rfl)
            try simp only [Act.put, List.setIfInBounds_toArray, List.set_cons_zero, List.set_cons_succ]
            refine wpAnyH_ready (rs := [3]) (by kernel_rfl) (by simp) ?_
            refine AllReadyH.cons rfl (fun Kc hKc => ?_) AllReadyH.nil
            go_simp
            go_at_call 62
            refine CI.mono ?_
            rintro e wA ⟨rfl, hBA⟩
            have qA := row_below HH.out.2.2.2.2.1 hBA
            have hSA := HH.out.1 wA qA
            go_wp2_with fail
            refine hKc.out _ _ hSA (fun hHeld => ?_)
            clear hKc Kc
            try simp only [Act.put, List.setIfInBounds_toArray, List.set_cons_zero, List.set_cons_succ]
            refine wpAnyH_take (i := 4) (v := ?vt9) rfl (by kernel_rfl) (by kernel_rfl) (by kernel_rfl) (fun _ _ _ h => h) (Or.inl ⟨by rfl, ?yt9⟩) hHeld ?_
            case yt9 => (intro w' hSw; (try dsimp only at hSw); go_simp; rw [if_neg (by omega)]); (try with_reducible rfl)
            try simp only [Act.put, List.setIfInBounds_toArray, List.set_cons_zero, List.set_cons_succ]
            refine wpAnyH_take (i := 5) (v := ?vt10) rfl (by kernel_rfl) (by kernel_rfl) (by kernel_rfl) (fun _ _ _ h => h) (Or.inl ⟨by rfl, ?yt10⟩) hHeld ?_
            case yt10 => (intro w' hSw; (try dsimp only at hSw); go_simp; rw [if_neg (by omega)]); (try with_reducible rfl)
            try simp only [Act.put, List.setIfInBounds_toArray, List.set_cons_zero, List.set_cons_succ]
            refine wpAnyH_ready (rs := [6]) (by kernel_rfl) (by simp) ?_
            refine AllReadyH.cons rfl (fun Kc hKc => ?_) AllReadyH.nil
            go_simp
            go_at_call 63
            refine (words_any wA).mono ?_
            rintro e wB ⟨rfl, hBB, qW, hzW⟩
            have hBAB := below_then hBA hBA.size hBB
            have qB := row_below qA hBB
            have hSB := HH.out.1 wB qB
            have cWB := HH.out.2.1 wB _ qW
            go_wp2_with fail
            refine hKc.out _ _ hSB (fun hHeld => ?_)
            clear hKc Kc
            try simp only [Act.put, List.setIfInBounds_toArray, List.set_cons_zero, List.set_cons_succ]
            refine wpAnyH_take (i := 10) (v := ?vt11) rfl (by kernel_rfl) (by kernel_rfl) (by kernel_rfl) (fun _ _ _ h => h) (Or.inl ⟨by rfl, ?yt11⟩) hHeld ?_
            case yt11 => (intro w' hSw; (try dsimp only at hSw); go_simp); (try with_reducible rfl)
            try simp only [Act.put, List.setIfInBounds_toArray, List.set_cons_zero, List.set_cons_succ]
            refine wpAnyH_ready (rs := [11,16]) (by kernel_rfl) (by simp) ?_
            refine AllReadyH.cons rfl (fun Kc hKc => ?_) (AllReadyH.cons rfl (fun Kc hKc => ?_) AllReadyH.nil)
            · skip
              go_simp
              refine hKc.out _ _ hSB (fun hHeld => ?_)
              clear hKc Kc
              try simp only [Act.put, List.setIfInBounds_toArray, List.set_cons_zero, List.set_cons_succ]
              refine wpAnyH_take (i := 12) (v := ?vt12) rfl (by kernel_rfl) (by kernel_rfl) (by kernel_rfl) (fun _ _ _ h => h) (Or.inl ⟨by rfl, ?yt12⟩) hHeld ?_
              case yt12 => (intro w' hSw; (try dsimp only at hSw); go_simp; rw [if_neg (by omega)]); (try with_reducible rfl)
              try simp only [Act.put, List.setIfInBounds_toArray, List.set_cons_zero, List.set_cons_succ]
              refine wpAnyH_take (i := 13) (v := ?vt13) rfl (by kernel_rfl) (by kernel_rfl) (by kernel_rfl) (fun _ _ _ h => h) (Or.inl ⟨by rfl, ?yt13⟩) hHeld ?_
              case yt13 => (intro w' hSw; (try dsimp only at hSw); go_simp; rw [if_neg (by omega)]); (try with_reducible rfl)
              try simp only [Act.put, List.setIfInBounds_toArray, List.set_cons_zero, List.set_cons_succ]
              refine wpAnyH_ready (rs := [16]) (by kernel_rfl) (by simp) ?_
              refine AllReadyH.cons rfl (fun Kc hKc => ?_) AllReadyH.nil
              go_simp
              go_at_call 61
              refine (HH.out.2.2.1 wB hBAB).mono ?_
              rintro e wC ⟨rfl, hBC⟩
              have hBAC := below_then hBAB hBAB.size hBC
              have hSC := HH.out.1 wC (row_below qB hBC)
              go_wp2_with fail
              refine hKc.out _ _ hSC (fun hHeld => ?_)
              clear hKc Kc
              try simp only [Act.put, List.setIfInBounds_toArray, List.set_cons_zero, List.set_cons_succ]
              refine wpAnyH_take (i := 17) (v := ?vt14) rfl (by kernel_rfl) (by kernel_rfl) (by kernel_rfl) (fun _ _ _ h => h) (Or.inl ⟨by rfl, ?yt14⟩) hHeld ?_
              case yt14 => (intro w' hSw; (try dsimp only at hSw); go_simp; rw [if_neg (by omega)]); (try with_reducible rfl)
              try simp only [Act.put, List.setIfInBounds_toArray, List.set_cons_zero, List.set_cons_succ]
              refine wpAnyH_take (i := 18) (v := ?vt15) rfl (by kernel_rfl) (by kernel_rfl) (by kernel_rfl) (fun _ _ _ h => h) (Or.inl ⟨by rfl, ?yt15⟩) hHeld ?_
              case yt15 => (intro w' hSw; (try dsimp only at hSw); go_simp; rw [if_neg (by omega)]); (try with_reducible rfl)
              try simp only [Act.put, List.setIfInBounds_toArray, List.set_cons_zero, List.set_cons_succ]
              refine wpAnyH_take (i := 19) (v := ?vt16) rfl (by kernel_rfl) (by kernel_rfl) (by kernel_rfl) (fun _ _ _ h => h) (Or.inl ⟨by rfl, ?yt16⟩) hHeld ?_
              case yt16 => (intro w' hSw; (try dsimp only at hSw); go_simp); (try with_reducible rfl)
              try simp only [Act.put, List.setIfInBounds_toArray, List.set_cons_zero, List.set_cons_succ]
              try simp only [Act.put, List.getElem_toArray, List.getElem_cons_succ, List.getElem_cons_zero, List.setIfInBounds_toArray, List.set_cons_zero, List.set_cons_succ]
              refine wpAnyH_done (by kernel_rfl) ?_ _
              go_wp2_with fail
              go_roundg (N.gates.length - (i + 1))
              case measure => omega
              case rel =>
                refine ⟨i + 1, T2 ++ DG ++ [32, 61, 32] ++ KW ++ [40] ++ LI ++ [41, 10], by omega, by omega, by go_num, str_eq ?_, HH.out.2.2.2.1.under hBAC, ?_⟩
                · exact cat_str _ _ _ _ (cat_str _ _ _ _ (cat_str _ _ _ _ (cat_str _ _ _ _ (cat_str _ _ _ _ (cat_str _ _ _ _ rfl rfl) rfl) rfl) rfl) rfl) rfl
                · show _ = _
                  rw [hsn.out, ← List.append_assoc, ← hT2.out, HH.out.2.2.2.2.2]
                  simp
            · skip
              go_simp
              go_at_call 61
              refine (HH.out.2.2.1 wB hBAB).mono ?_
              rintro e wC ⟨rfl, hBC⟩
              have hBAC := below_then hBAB hBAB.size hBC
              have hSC := HH.out.1 wC (row_below qB hBC)
              have cWC := HH.out.2.1 wC _ (row_below qW hBC)
              go_wp2_with fail
              refine hKc.out _ _ hSC (fun hHeld => ?_)
              clear hKc Kc
              try simp only [Act.put, List.setIfInBounds_toArray, List.set_cons_zero, List.set_cons_succ]
              refine wpAnyH_ready (rs := [11]) (by kernel_rfl) (by simp) ?_
              refine AllReadyH.cons rfl (fun Kc hKc => ?_) AllReadyH.nil
              go_simp
              refine hKc.out _ _ hSC (fun hHeld => ?_)
              clear hKc Kc
              try simp only [Act.put, List.setIfInBounds_toArray, List.set_cons_zero, List.set_cons_succ]
              refine wpAnyH_take (i := 12) (v := ?vt17) rfl (by kernel_rfl) (by kernel_rfl) (by kernel_rfl) (fun _ _ _ h => h) (Or.inl ⟨by rfl, ?yt17⟩) hHeld ?_
              case yt17 => (intro w' hSw; (try dsimp only at hSw); go_simp; rw [if_neg (by omega)]); (try with_reducible rfl)
              try simp only [Act.put, List.setIfInBounds_toArray, List.set_cons_zero, List.set_cons_succ]
              refine wpAnyH_take (i := 13) (v := ?vt18) rfl (by kernel_rfl) (by kernel_rfl) (by kernel_rfl) (fun _ _ _ h => h) (Or.inl ⟨by rfl, ?yt18⟩) hHeld ?_
              case yt18 => (intro w' hSw; (try dsimp only at hSw); go_simp; rw [if_neg (by omega)]); (try with_reducible rfl)
              try simp only [Act.put, List.setIfInBounds_toArray, List.set_cons_zero, List.set_cons_succ]
              refine wpAnyH_take (i := 17) (v := ?vt19) rfl (by kernel_rfl) (by kernel_rfl) (by kernel_rfl) (fun _ _ _ h => h) (Or.inl ⟨by rfl, ?yt19⟩) hHeld ?_
              case yt19 => (intro w' hSw; (try dsimp only at hSw); go_simp; rw [if_neg (by omega)]); (try with_reducible rfl)
              try simp only [Act.put, List.setIfInBounds_toArray, List.set_cons_zero, List.set_cons_succ]
              refine wpAnyH_take (i := 18) (v := ?vt20) rfl (by kernel_rfl) (by kernel_rfl) (by kernel_rfl) (fun _ _ _ h => h) (Or.inl ⟨by rfl, ?yt20⟩) hHeld ?_
              case yt20 => (intro w' hSw; (try dsimp only at hSw); go_simp; rw [if_neg (by omega)]); (try with_reducible rfl)
              try simp only [Act.put, List.setIfInBounds_toArray, List.set_cons_zero, List.set_cons_succ]
              refine wpAnyH_take (i := 19) (v := ?vt21) rfl (by kernel_rfl) (by kernel_rfl) (by kernel_rfl) (fun _ _ _ h => h) (Or.inl ⟨by rfl, ?yt21⟩) hHeld ?_
              case yt21 => (intro w' hSw; (try dsimp only at hSw); go_simp); (try with_reducible rfl)
              try simp only [Act.put, List.setIfInBounds_toArray, List.set_cons_zero, List.set_cons_succ]
              try simp only [Act.put, List.getElem_toArray, List.getElem_cons_succ, List.getElem_cons_zero, List.setIfInBounds_toArray, List.set_cons_zero, List.set_cons_succ]
              refine wpAnyH_done (by kernel_rfl) ?_ _
              go_wp2_with fail
              go_roundg (N.gates.length - (i + 1))
              case measure => omega
              case rel =>
                refine ⟨i + 1, T2 ++ DG ++ [32, 61, 32] ++ KW ++ [40] ++ LI ++ [41, 10], by omega, by omega, by go_num, str_eq ?_, HH.out.2.2.2.1.under hBAC, ?_⟩
                · exact cat_str _ _ _ _ (cat_str _ _ _ _ (cat_str _ _ _ _ (cat_str _ _ _ _ (cat_str _ _ _ _ (cat_str _ _ _ _ rfl rfl) rfl) rfl) rfl) rfl) rfl
                · show _ = _
                  rw [hsn.out, ← List.append_assoc, ← hT2.out, HH.out.2.2.2.2.2]
                  simp
          · have hltiz : ¬ (i : Int) < (N.gates.length : Int) := by omega
            have hTT2 : T2 = textP N := by rw [hT2.out, List.take_of_length_le (by omega : N.gates.length ≤ i)]; rfl
            have hle : T2.length ≤ 4194304 := by rw [hTT2]; exact HT.out
            have hbz : decide ((4194304 : Int) < (T2.length : Int)) = false := decide_eq_false (by omega)
            have HP : printP N = (T2, 0) := by unfold printP; rw [if_pos HM.out, if_neg (by have := HT.out; omega), hTT2]
            have HP := hid HP
            clear hTT2 hle hT2
            go_wp2_with fail
            go_ret2
            exact ⟨by first | rfl | (rw [HP.out]; rfl), P.below⟩
end Go.Proofs.YtnlobmepajakcaaGreatDoor
