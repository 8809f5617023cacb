/- What QcirShuffles returns for valid nets: true; the condition: each gate has at most 2^44 literals. -/
import Derived.Test.YtnlobmepajakcaaGreatDoorLawHa
set_option linter.unusedVariables false
set_option linter.unusedSimpArgs false
namespace Go.Proofs.YtnlobmepajakcaaGreatDoor
open Go.RowKit Go.Shelf
attribute [local go_sem] Oper.semAt_some

theorem join_flat : ∀ xs : List Bs, Lib.join xs [] = xs.flatten
  | [] => rfl
  | x :: xs => by
    rw [Lib.join_cons]
    unfold Lib.joinTail
    simp
set_option maxRecDepth 100000 in
set_option maxHeartbeats 4000000 in
theorem QcirShuffles_good (v vs va : Value) (N : PNet) (sw : List Nat) (a : List Int) (w : World) (h : NetAt w v N) (hb : ∀ g ∈ N.gates, g.ins.length ≤ 17592186044416) (hsw : U16sAt w vs sw) (ha : IntsAt w va a) (hE : Env w) (hg : greatB N = false) (hl : ¬ 300 < sw.length) (hal2 : ¬ 200 < a.length) (hM : mayP N = true) (hn : normFrom 0 a = true) :
    Calls Tryz.prog 4 #[v, vs, va] w fun e w' => e = .returned (.bool true) ∧ Below w.heap.size w w' := by
  obtain ⟨Ap, cp, Ag, cg, rfl⟩ := net_parts h
  obtain ⟨As, cs, rfl, hsl, hsm⟩ := hsw.form
  obtain ⟨Aa, ca, rfl, hal, ham⟩ := ha.form
  obtain ⟨w1, hw1, -, -, hz1, hB1, q1⟩ := new_block w #[.slice Ap N.pre.length cp, .slice Ag N.gates.length cg, .int .i64 N.out] 40
  have rows : ∀ W, Below w1.heap.size w1 W → W.cell? ⟨w.heap.size, 0, none⟩ = some (.slice Ap N.pre.length cp) ∧ W.cell? ⟨w.heap.size, 1, none⟩ = some (.slice Ag N.gates.length cg) ∧ W.cell? ⟨w.heap.size, 2, none⟩ = some (.int .i64 N.out) := fun W hW =>
    ⟨cell_row (row_below q1 hW) rfl, cell_row (row_below q1 hW) rfl, cell_row (row_below q1 hW) rfl⟩
  have nets : ∀ W, Below w1.heap.size w1 W → NetAt W (.agg #[.slice Ap N.pre.length cp, .slice Ag N.gates.length cg, .int .i64 N.out]) N := fun W hW => h.keep (keeps_below (below_then hB1 hB1.size hW))
  have ints : ∀ W, Below w1.heap.size w1 W → IntsAt W (.slice Aa a.length ca) a := fun W hW => ha.keep (keeps_below (below_then hB1 hB1.size hW))
  have envs : ∀ W, Below w1.heap.size w1 W → Env W := fun W hW => hE.below (below_then hB1 hB1.size hW) hE.size
  have fin : ∀ W, Below w1.heap.size w1 W → Below w.heap.size w W := fun W hW => below_then hB1 hB1.size hW
  have R0 := Below.refl w1.heap.size w1
  have CG := great_any _ N w1 (nets w1 R0) hb
  obtain ⟨a0, a1, a2⟩ := rows w1 R0
  have HSW := hid (fun W (hW : Below w1.heap.size w1 W) => hsw.keep (keeps_below (below_then hB1 hB1.size hW)))
  rw [hg] at CG
  obtain ⟨hgl, hgs⟩ := great_no hg
  have hz : decide ((300 : Int) < (sw.length : Int)) = false := decide_eq_false (by omega)
  have hz2 : decide ((200 : Int) < (a.length : Int)) = false := decide_eq_false (by omega)
  clear h q1 hB1 hsw ha hg hl hal2
  go_enter Tryz.func4, Tryz.ntmps4
  go_wp2_with fail
  refine CG.mono ?_
  rintro e w2 ⟨rfl, hB2⟩
  obtain ⟨b0, b1, b2⟩ := rows w2 hB2
  have CM := MayR_any _ N w2 (nets w2 hB2) (by omega) (by omega)
  rw [hM] at CM
  clear a0 a1 a2 CG
  go_wp2_with fail
  refine CM.mono ?_
  rintro e w3 ⟨rfl, hB3⟩
  have hB13 := below_le hB2 (Nat.le_refl _) hB3
  clear b0 b1 b2 CM
  have CN := NormalR_any _ a w3 (ints w3 hB13)
  rw [hn] at CN
  have hT := may_text hM hgl hgs
  have HT := hid hT
  have HP := hid (show printP N = (textP N, 0) by unfold printP; rw [if_pos hM, if_neg (by omega)])
  have HH := hid (And.intro hM hn)
  clear hM hn hT
  go_wp2_with fail
  refine CN.mono ?_
  rintro e w4 ⟨rfl, hB4⟩
  have hB14 := below_le hB13 (Nat.le_refl _) hB4
  obtain ⟨b0, b1, b2⟩ := rows w4 hB14
  have CP : Calls Tryz.prog 23 #[.agg #[.slice Ap N.pre.length cp, .slice Ag N.gates.length cg, .int .i64 N.out]] w4 fun e w' => e = .returned (.tuple #[.string ⟨(textP N).toArray⟩, .int .i64 0]) ∧ Below w4.heap.size w4 w' := by
    have C := Print_any _ N w4 (nets w4 hB14) (by omega) (envs w4 hB14)
    rw [HP.out] at C
    exact C
  clear CN
  go_wp2_with fail
  refine CP.mono ?_
  rintro e w5 ⟨rfl, hB5⟩
  have hB15 := below_le hB14 (Nat.le_refl _) hB5
  have CS := splitAfter_text N w5 (by have := HT.out; omega) (envs w5 hB15)
  have hRL : (rowL N).length = firstN N + N.gates.length + 1 := rowL_len N N.gates
  obtain ⟨f, hf⟩ : ∃ f, firstN N = f := ⟨_, rfl⟩
  obtain ⟨m, hm⟩ : ∃ m, (rowL N).length = m := ⟨_, rfl⟩
  obtain ⟨q, hq⟩ : ∃ q, f + N.gates.length = q := ⟨_, rfl⟩
  rw [hm, hf] at hRL
  rw [hm] at CS
  obtain ⟨w6, hw6, -, -, hz6, hB6, q6⟩ := new_block w5 ((rowL N).map sv).toArray 9
  rw [hw6] at CS
  have hpl := (pf_of HH.out.1).prel
  have hfl : f ≤ 2000 := by rw [← hf]; unfold firstN; omega
  have h1 : (m : Int) - 1 = (q : Int) := by omega
  have h2 : (q : Int) - (N.gates.length : Int) = (f : Int) := by omega
  have h3 : decide ((m : Int) < (N.gates.length : Int) + 1) = false := decide_eq_false (by omega)
  have h4 : IntKind.i64.wrap (q : Int) = (q : Int) := IntWalk.i64_in _ (by omega)
  have h5 : IntKind.i64.wrap (f : Int) = (f : Int) := IntWalk.i64_in _ (by omega)
  have h6 : IntKind.i64.wrap ((N.gates.length : Int) + 1) = (N.gates.length : Int) + 1 := IntWalk.i64_in _ (by omega)
  have h7 : q ≤ m := by omega
  have hB16 := below_le hB15 (Nat.le_refl _) hB6
  obtain ⟨c0, c1, c2⟩ := rows w6 hB16
  have HQ := hid (And.intro hRL (And.intro hq hf))
  have HM := hid hm
  clear CP b0 b1 b2 hRL hq hf hm
  go_wp2_with fail
  refine CS.mono ?_
  rintro e w7 ⟨rfl, rfl⟩
  go_wp2_with fail
  have hbz : w1.heap.size ≤ w5.heap.size := hB15.size
  generalize w5.heap.size = b at *
  go_loopg [77] sw.length (fun gg s77 wr => ∃ (j : Nat) (gs : List PGate), j ≤ sw.length ∧ sw.length - j ≤ gg ∧ s77 = .int .i64 (j : Int) ∧ gs.Perm N.gates ∧ Below w1.heap.size w1 wr ∧ wr.heap[b]? = some (.cells ((rowL (reN N gs)).map sv).toArray 9 (0, 0)))
  case atStart => exact ⟨0, N.gates, Nat.zero_le _, by omega, rfl, List.Perm.refl _, hB16, q6⟩
  case round =>
    obtain ⟨j, gs, hj, hgg, rfl, hperm, hB, hq⟩ := hrel
    obtain ⟨e0, e1, e2⟩ := rows wr hB
    by_cases hlt : j < sw.length
    · have hltz : (j : Int) < (sw.length : Int) := by omega
      obtain ⟨x, hxj, hxm, -⟩ := nth hlt
      obtain ⟨bx, ox, rfl, hcx, hx16⟩ := (HSW.out wr hB).at_ j x hxj
      by_cases hk : N.gates.length = 0
      · rw [hk] at e1
        have HK := hid hk
        have HG := hid (And.intro hperm hq)
        clear hk hxj hxm hq hperm
        go_wp2_with fail
        go_roundg (sw.length - (j + 1))
        case measure => omega
        case rel => exact ⟨j + 1, gs, by omega, by omega, by go_num, HG.out.1, hB, HG.out.2⟩
      · have hkz : (0 : Int) < (N.gates.length : Int) := by omega
        have hlg := hperm.length_eq
        obtain ⟨i1, hi1⟩ : ∃ i1, x % N.gates.length = i1 := ⟨_, rfl⟩
        obtain ⟨i2, hi2⟩ : ∃ i2, x / 256 % N.gates.length = i2 := ⟨_, rfl⟩
        have hil1 : i1 < N.gates.length := by rw [← hi1]; exact Nat.mod_lt _ (by omega)
        have hil2 : i2 < N.gates.length := by rw [← hi2]; exact Nat.mod_lt _ (by omega)
        have hx1 : (x : Int).tmod (N.gates.length : Int) = (i1 : Int) := by rw [Int.tmod_eq_emod_of_nonneg (by omega), ← hi1]; norm_cast
        have hx2 : ((x : Int) / 256).tmod (N.gates.length : Int) = (i2 : Int) := by rw [show (x : Int) / 256 = ((x / 256 : Nat) : Int) by omega, Int.tmod_eq_emod_of_nonneg (by omega), ← hi2]; norm_cast
        have hx3 : IntKind.i64.wrap (x : Int) = (x : Int) := IntWalk.i64_in _ (by omega)
        have hx4 : IntKind.i64.wrap ((x : Int) / 256) = (x : Int) / 256 := IntWalk.i64_in _ (by omega)
        obtain ⟨p1, hp1⟩ : ∃ p1, f + i1 = p1 := ⟨_, rfl⟩
        obtain ⟨p2, hp2⟩ : ∃ p2, f + i2 = p2 := ⟨_, rfl⟩
        have hw1 : IntKind.i64.wrap ((f : Int) + (i1 : Int)) = (p1 : Int) := by rw [IntWalk.i64_in _ (by omega)]; omega
        have hw2 : IntKind.i64.wrap ((f : Int) + (i2 : Int)) = (p2 : Int) := by rw [IntWalk.i64_in _ (by omega)]; omega
        have HG := hid (And.intro hperm (And.intro hxj hq))
        clear hxj hxm hi1 hi2 hperm hq
        go_wp2_with fail
        refine wp_region_held_drew (S := fun _ => True) (by kernel_rfl) trivial (fun hHeld => ?_)
        refine wpAnyH_take (i := 0) (v := ?vh1) rfl (by kernel_rfl) (by kernel_rfl) (by kernel_rfl) (fun _ _ _ h => h) (Or.inl ⟨by rfl, ?yh1⟩) hHeld ?_
        case yh1 => (intro w' hSw; (try dsimp only at hSw); go_simp); (try with_reducible rfl)
        try simp only [Act.put, List.getElem_toArray, List.getElem_cons_succ, List.getElem_cons_zero, List.setIfInBounds_toArray, List.set_cons_zero, List.set_cons_succ]
        refine wpAnyH_take (i := 1) (v := ?vh2) rfl (by kernel_rfl) (by kernel_rfl) (by kernel_rfl) (fun _ _ _ h => h) (Or.inl ⟨by rfl, ?yh2⟩) hHeld ?_
        case yh2 => (intro w' hSw; (try dsimp only at hSw); go_simp); (try with_reducible rfl)
        try simp only [Act.put, List.getElem_toArray, List.getElem_cons_succ, List.getElem_cons_zero, List.setIfInBounds_toArray, List.set_cons_zero, List.set_cons_succ]
        refine wpAnyH_take (i := 2) (v := ?vh3) rfl (by kernel_rfl) (by kernel_rfl) (by kernel_rfl) (fun _ _ _ h => h) (Or.inl ⟨by rfl, ?yh3⟩) hHeld ?_
        case yh3 => (intro w' hSw; (try dsimp only at hSw); go_simp); (try with_reducible rfl)
        try simp only [Act.put, List.getElem_toArray, List.getElem_cons_succ, List.getElem_cons_zero, List.setIfInBounds_toArray, List.set_cons_zero, List.set_cons_succ]
        refine wpAnyH_take (i := 3) (v := ?vh4) rfl (by kernel_rfl) (by kernel_rfl) (by kernel_rfl) (fun _ _ _ h => h) (Or.inl ⟨by rfl, ?yh4⟩) hHeld ?_
        case yh4 => (intro w' hSw; (try dsimp only at hSw); go_simp); (try with_reducible rfl)
        try simp only [Act.put, List.getElem_toArray, List.getElem_cons_succ, List.getElem_cons_zero, List.setIfInBounds_toArray, List.set_cons_zero, List.set_cons_succ]
        refine wpAnyH_take (i := 4) (v := ?vh5) rfl (by kernel_rfl) (by kernel_rfl) (by kernel_rfl) (fun _ _ _ h => h) (Or.inl ⟨by rfl, ?yh5⟩) hHeld ?_
        case yh5 => (intro w' hSw; (try dsimp only at hSw); go_simp); (try with_reducible rfl)
        try simp only [Act.put, List.getElem_toArray, List.getElem_cons_succ, List.getElem_cons_zero, List.setIfInBounds_toArray, List.set_cons_zero, List.set_cons_succ]
        refine wpAnyH_take (i := 5) (v := ?vh6) rfl (by kernel_rfl) (by kernel_rfl) (by kernel_rfl) (fun _ _ _ h => h) (Or.inl ⟨by rfl, ?yh6⟩) hHeld ?_
        case yh6 => (intro w' hSw; (try dsimp only at hSw); go_simp); (try with_reducible rfl)
        try simp only [Act.put, List.getElem_toArray, List.getElem_cons_succ, List.getElem_cons_zero, List.setIfInBounds_toArray, List.set_cons_zero, List.set_cons_succ]
        refine wpAnyH_take (i := 6) (v := ?vh7) rfl (by kernel_rfl) (by kernel_rfl) (by kernel_rfl) (fun _ _ _ h => h) (Or.inl ⟨by rfl, ?yh7⟩) hHeld ?_
        case yh7 => (intro w' hSw; (try dsimp only at hSw); go_simp); (try with_reducible rfl)
        try simp only [Act.put, List.getElem_toArray, List.getElem_cons_succ, List.getElem_cons_zero, List.setIfInBounds_toArray, List.set_cons_zero, List.set_cons_succ]
        refine wpAnyH_take (i := 7) (v := ?vh8) rfl (by kernel_rfl) (by kernel_rfl) (by kernel_rfl) (fun _ _ _ h => h) (Or.inl ⟨by rfl, ?yh8⟩) hHeld ?_
        case yh8 => (intro w' hSw; (try dsimp only at hSw); go_simp); (try with_reducible rfl)
        try simp only [Act.put, List.getElem_toArray, List.getElem_cons_succ, List.getElem_cons_zero, List.setIfInBounds_toArray, List.set_cons_zero, List.set_cons_succ]
        refine wpAnyH_take (i := 8) (v := ?vh9) rfl (by kernel_rfl) (by kernel_rfl) (by kernel_rfl) (fun _ _ _ h => h) (Or.inl ⟨by rfl, ?yh9⟩) hHeld ?_
        case yh9 => (intro w' hSw; (try dsimp only at hSw); go_simp); (try with_reducible rfl)
        try simp only [Act.put, List.getElem_toArray, List.getElem_cons_succ, List.getElem_cons_zero, List.setIfInBounds_toArray, List.set_cons_zero, List.set_cons_succ]
        refine wpAnyH_take (i := 9) (v := ?vh10) rfl (by kernel_rfl) (by kernel_rfl) (by kernel_rfl) (fun _ _ _ h => h) (Or.inl ⟨by rfl, ?yh10⟩) hHeld ?_
        case yh10 => (intro w' hSw; (try dsimp only at hSw); go_simp); (try with_reducible rfl)
        try simp only [Act.put, List.getElem_toArray, List.getElem_cons_succ, List.getElem_cons_zero, List.setIfInBounds_toArray, List.set_cons_zero, List.set_cons_succ]
        refine wpAnyH_take (i := 10) (v := ?vh11) rfl (by kernel_rfl) (by kernel_rfl) (by kernel_rfl) (fun _ _ _ h => h) (Or.inl ⟨by rfl, ?yh11⟩) hHeld ?_
        case yh11 => (intro w' hSw; (try dsimp only at hSw); go_simp); (try with_reducible rfl)
        try simp only [Act.put, List.getElem_toArray, List.getElem_cons_succ, List.getElem_cons_zero, List.setIfInBounds_toArray, List.set_cons_zero, List.set_cons_succ]
        refine wpAnyH_take (i := 11) (v := ?vh12) rfl (by kernel_rfl) (by kernel_rfl) (by kernel_rfl) (fun _ _ _ h => h) (Or.inl ⟨by rfl, ?yh12⟩) hHeld ?_
        case yh12 => (intro w' hSw; (try dsimp only at hSw); go_simp); (try with_reducible rfl)
        try simp only [Act.put, List.getElem_toArray, List.getElem_cons_succ, List.getElem_cons_zero, List.setIfInBounds_toArray, List.set_cons_zero, List.set_cons_succ]
        refine wpAnyH_take (i := 12) (v := ?vh13) rfl (by kernel_rfl) (by kernel_rfl) (by kernel_rfl) (fun _ _ _ h => h) (Or.inl ⟨by rfl, ?yh13⟩) hHeld ?_
        case yh13 => (intro w' hSw; (try dsimp only at hSw); go_simp); (try with_reducible rfl)
        try simp only [Act.put, List.getElem_toArray, List.getElem_cons_succ, List.getElem_cons_zero, List.setIfInBounds_toArray, List.set_cons_zero, List.set_cons_succ]
        refine wpAnyH_take (i := 13) (v := ?vh14) rfl (by kernel_rfl) (by kernel_rfl) (by kernel_rfl) (fun _ _ _ h => h) (Or.inl ⟨by rfl, ?yh14⟩) hHeld ?_
        case yh14 => (intro w' hSw; (try dsimp only at hSw); go_simp); (try with_reducible rfl)
        try simp only [Act.put, List.getElem_toArray, List.getElem_cons_succ, List.getElem_cons_zero, List.setIfInBounds_toArray, List.set_cons_zero, List.set_cons_succ]
        refine wpAnyH_take (i := 14) (v := ?vh15) rfl (by kernel_rfl) (by kernel_rfl) (by kernel_rfl) (fun _ _ _ h => h) (Or.inl ⟨by rfl, ?yh15⟩) hHeld ?_
        case yh15 => (intro w' hSw; (try dsimp only at hSw); go_simp); (try with_reducible rfl)
        try simp only [Act.put, List.getElem_toArray, List.getElem_cons_succ, List.getElem_cons_zero, List.setIfInBounds_toArray, List.set_cons_zero, List.set_cons_succ]
        refine wpAnyH_done (by kernel_rfl) ?_ _
        go_wp2_with fail
        obtain ⟨x1, hx1m, -, -⟩ := nth (show i1 < gs.length by omega)
        obtain ⟨x2, hx2m, -, -⟩ := nth (show i2 < gs.length by omega)
        have hqf := HQ.out.2.2
        have hqq := HQ.out.2.1
        have g1 := rowL_get N hx1m
        have g2 := rowL_get N hx2m
        rw [hqf, hp1] at g1
        rw [hqf, hp2] at g2
        have l1 : wr.drew.cell? ⟨b, p1, none⟩ = some (sv (gateB x1 ++ [10])) := cell_row (w := wr.drew) HG.out.2.2 (by rw [List.getElem?_toArray, List.getElem?_map, g1]; rfl)
        have l2 : wr.drew.cell? ⟨b, p2, none⟩ = some (sv (gateB x2 ++ [10])) := cell_row (w := wr.drew) HG.out.2.2 (by rw [List.getElem?_toArray, List.getElem?_map, g2]; rfl)
        have r1 : (wr.drew.setCell ⟨b, p1, none⟩ (sv (gateB x2 ++ [10]))).heap[b]? = some (.cells ((rowL (reN N (gs.set i1 x2))).map sv).toArray 9 (0, 0)) := by
          have r := row_set (w := wr.drew) (i := p1) HG.out.2.2 (sv (gateB x2 ++ [10]))
          rw [List.setIfInBounds_toArray, ← List.map_set, ← hp1, ← hqf, rowL_set N gs i1 x2 (by omega)] at r
          rw [← hp1, ← hqf]; exact r
        have hgl1 : (gs.set i1 x2).length = gs.length := List.length_set
        have r2 : ((wr.drew.setCell ⟨b, p1, none⟩ (sv (gateB x2 ++ [10]))).setCell ⟨b, p2, none⟩ (sv (gateB x1 ++ [10]))).heap[b]? = some (.cells ((rowL (reN N ((gs.set i1 x2).set i2 x1))).map sv).toArray 9 (0, 0)) := by
          have r := row_set (i := p2) r1 (sv (gateB x1 ++ [10]))
          rw [List.setIfInBounds_toArray, ← List.map_set, ← hp2, ← hqf, rowL_set N (gs.set i1 x2) i2 x1 (by omega)] at r
          rw [← hp2, ← hqf]; exact r
        have hpp : ((gs.set i1 x2).set i2 x1).Perm N.gates := (swap_perm gs i1 i2 x1 x2 hx1m hx2m).trans HG.out.1
        have f1 := frozen_of_row _ b p1 _ _ (show wr.drew.heap[b]? = some _ from HG.out.2.2)
        have f2 := frozen_of_row _ b p2 _ _ r1
        have k2 : ∃ u, (wr.drew.setCell ⟨b, p1, none⟩ (sv (gateB x2 ++ [10]))).cell? ⟨b, p2, none⟩ = some u := by
          have : p2 < (rowL (reN N (gs.set i1 x2))).length := by rw [rowL_len, hqf]; omega
          exact ⟨_, cell_row r1 (by rw [List.getElem?_toArray, List.getElem?_map, List.getElem?_eq_getElem this]; rfl)⟩
        obtain ⟨u2, k2⟩ := k2
        have hp1q : p1 < q := by omega
        have hp2q : p2 < q := by omega
        have hp1z : (p1 : Int) < (q : Int) := by omega
        have hp2z : (p2 : Int) < (q : Int) := by omega
        have hBs : Below w1.heap.size w1 ((wr.drew.setCell ⟨b, p1, none⟩ (sv (gateB x2 ++ [10]))).setCell ⟨b, p2, none⟩ (sv (gateB x1 ++ [10]))) := ((hB.drew).grown (grown_setCell _ ⟨b, p1, none⟩ _) hB.size (fun r e => by injection e with e; rw [← e]; exact hbz)).grown (grown_setCell _ ⟨b, p2, none⟩ _) (by have := hB.size; simpa [World.setCell] using this) (fun r e => by injection e with e; rw [← e]; exact hbz)
        have HR := hid (And.intro r2 (And.intro hpp hBs))
        have HX := hid (And.intro hx1m hx2m)
        clear r1 r2 hpp hBs g1 g2 hqf hqq hx1m hx2m hgl1 hw1 hw2
        unfold sv at l1 l2 k2 f2 HR
        generalize (⟨(gateB x1 ++ [10]).toArray⟩ : ByteArray) = t1 at l1 l2 k2 f2 HR
        generalize (⟨(gateB x2 ++ [10]).toArray⟩ : ByteArray) = t2 at l1 l2 k2 f2 HR
        refine wp_region_held_drew (S := fun _ => True) (by kernel_rfl) trivial (fun hHeld => ?_)
        generalize wr.drew = Wd at *
        refine wpAnyH_take (i := 0) (v := ?vh16) rfl (by kernel_rfl) (by kernel_rfl) (by kernel_rfl) (fun _ _ _ h => h) (Or.inl ⟨by rfl, ?yh16⟩) hHeld ?_
        case yh16 => (intro w' hSw; (try dsimp only at hSw); go_simp); (try with_reducible rfl)
        try simp only [Act.put, List.getElem_toArray, List.getElem_cons_succ, List.getElem_cons_zero, List.setIfInBounds_toArray, List.set_cons_zero, List.set_cons_succ]
        refine wpAnyH_take (i := 1) (v := ?vh17) rfl (by kernel_rfl) (by kernel_rfl) (by kernel_rfl) (fun _ _ _ h => h) (Or.inl ⟨by rfl, ?yh17⟩) hHeld ?_
        case yh17 => (intro w' hSw; (try dsimp only at hSw); go_simp); (try with_reducible rfl)
        try simp only [Act.put, List.getElem_toArray, List.getElem_cons_succ, List.getElem_cons_zero, List.setIfInBounds_toArray, List.set_cons_zero, List.set_cons_succ]
        refine wpAnyH_take (i := 2) (v := ?vh18) rfl (by kernel_rfl) (by kernel_rfl) (by kernel_rfl) (fun _ _ _ h => h) (Or.inl ⟨by rfl, ?yh18⟩) hHeld ?_
        case yh18 => (intro w' hSw; (try dsimp only at hSw); go_simp); (try with_reducible rfl)
        try simp only [Act.put, List.getElem_toArray, List.getElem_cons_succ, List.getElem_cons_zero, List.setIfInBounds_toArray, List.set_cons_zero, List.set_cons_succ]
        refine wpAnyH_take (i := 3) (v := ?vh19) rfl (by kernel_rfl) (by kernel_rfl) (by kernel_rfl) (fun _ _ _ h => h) (Or.inl ⟨by rfl, ?yh19⟩) hHeld ?_
        case yh19 => (intro w' hSw; (try dsimp only at hSw); go_simp); (try with_reducible rfl)
        try simp only [Act.put, List.getElem_toArray, List.getElem_cons_succ, List.getElem_cons_zero, List.setIfInBounds_toArray, List.set_cons_zero, List.set_cons_succ]
        refine wpAnyH_take (i := 4) (v := ?vh20) rfl (by kernel_rfl) (by kernel_rfl) (by kernel_rfl) (fun _ _ _ h => h) (Or.inl ⟨by rfl, ?yh20⟩) hHeld ?_
        case yh20 => (intro w' hSw; (try dsimp only at hSw); go_simp); (try with_reducible rfl)
        try simp only [Act.put, List.getElem_toArray, List.getElem_cons_succ, List.getElem_cons_zero, List.setIfInBounds_toArray, List.set_cons_zero, List.set_cons_succ]
        refine wpAnyH_take (i := 5) (v := ?vh21) rfl (by kernel_rfl) (by kernel_rfl) (by kernel_rfl) (fun _ _ _ h => h) (Or.inl ⟨by rfl, ?yh21⟩) hHeld ?_
        case yh21 => (intro w' hSw; (try dsimp only at hSw); go_simp); (try with_reducible rfl)
        try simp only [Act.put, List.getElem_toArray, List.getElem_cons_succ, List.getElem_cons_zero, List.setIfInBounds_toArray, List.set_cons_zero, List.set_cons_succ]
        refine wpAnyH_take (i := 6) (v := ?vh22) rfl (by kernel_rfl) (by kernel_rfl) (by kernel_rfl) (fun _ _ _ h => h) (Or.inl ⟨by rfl, ?yh22⟩) hHeld ?_
        case yh22 => (intro w' hSw; (try dsimp only at hSw); go_simp); (try with_reducible rfl)
        try simp only [Act.put, List.getElem_toArray, List.getElem_cons_succ, List.getElem_cons_zero, List.setIfInBounds_toArray, List.set_cons_zero, List.set_cons_succ]
        refine wpAnyH_take (i := 8) (v := ?vh23) rfl (by kernel_rfl) (by kernel_rfl) (by kernel_rfl) (fun _ _ _ h => h) (Or.inl ⟨by rfl, ?yh23⟩) hHeld ?_
        case yh23 => (intro w' hSw; (try dsimp only at hSw); go_simp); (try with_reducible rfl)
        try simp only [Act.put, List.getElem_toArray, List.getElem_cons_succ, List.getElem_cons_zero, List.setIfInBounds_toArray, List.set_cons_zero, List.set_cons_succ]
        refine wpAnyH_take (i := 9) (v := ?vh24) rfl (by kernel_rfl) (by kernel_rfl) (by kernel_rfl) (fun _ _ _ h => h) (Or.inl ⟨by rfl, ?yh24⟩) hHeld ?_
        case yh24 => (intro w' hSw; (try dsimp only at hSw); go_simp); (try with_reducible rfl)
        try simp only [Act.put, List.getElem_toArray, List.getElem_cons_succ, List.getElem_cons_zero, List.setIfInBounds_toArray, List.set_cons_zero, List.set_cons_succ]
        refine wpAnyH_take (i := 10) (v := ?vh25) rfl (by kernel_rfl) (by kernel_rfl) (by kernel_rfl) (fun _ _ _ h => h) (Or.inl ⟨by rfl, ?yh25⟩) hHeld ?_
        case yh25 => (intro w' hSw; (try dsimp only at hSw); go_simp); (try with_reducible rfl)
        try simp only [Act.put, List.getElem_toArray, List.getElem_cons_succ, List.getElem_cons_zero, List.setIfInBounds_toArray, List.set_cons_zero, List.set_cons_succ]
        refine wpAnyH_ready (rs := [7,11]) (by kernel_rfl) (by simp) ?_
        refine AllReadyH.cons rfl (fun Kc hKc => ?_) (AllReadyH.cons rfl (fun Kc hKc => ?_) AllReadyH.nil)
        · skip
          go_simp
          refine hKc.out _ _ trivial (fun hHeld => ?_)
          clear hKc Kc
          try simp only [Act.put, List.getElem_toArray, List.getElem_cons_succ, List.getElem_cons_zero, List.setIfInBounds_toArray, List.set_cons_zero, List.set_cons_succ]
          refine wpAnyH_ready (rs := [11]) (by kernel_rfl) (by simp) ?_
          refine AllReadyH.cons rfl (fun Kc hKc => ?_) AllReadyH.nil
          go_simp
          refine hKc.out _ _ trivial (fun hHeld => ?_)
          clear hKc Kc
          try simp only [Act.put, List.getElem_toArray, List.getElem_cons_succ, List.getElem_cons_zero, List.setIfInBounds_toArray, List.set_cons_zero, List.set_cons_succ]
          refine wpAnyH_take (i := 12) (v := ?vh26) rfl (by kernel_rfl) (by kernel_rfl) (by kernel_rfl) (fun _ _ _ h => h) (Or.inl ⟨by rfl, ?yh26⟩) hHeld ?_
          case yh26 => (intro w' hSw; (try dsimp only at hSw); go_simp); (try with_reducible rfl)
          try simp only [Act.put, List.getElem_toArray, List.getElem_cons_succ, List.getElem_cons_zero, List.setIfInBounds_toArray, List.set_cons_zero, List.set_cons_succ]
          refine wpAnyH_ready (rs := [13]) (by kernel_rfl) (by simp) ?_
          refine AllReadyH.cons rfl (fun Kc hKc => ?_) AllReadyH.nil
          go_simp
          refine hKc.out _ _ trivial (fun hHeld => ?_)
          clear hKc Kc
          try simp only [Act.put, List.getElem_toArray, List.getElem_cons_succ, List.getElem_cons_zero, List.setIfInBounds_toArray, List.set_cons_zero, List.set_cons_succ]
          refine wpAnyH_take (i := 14) (v := ?vh27) rfl (by kernel_rfl) (by kernel_rfl) (by kernel_rfl) (fun _ _ _ h => h) (Or.inl ⟨by rfl, ?yh27⟩) hHeld ?_
          case yh27 => (intro w' hSw; (try dsimp only at hSw); go_simp); (try with_reducible rfl)
          try simp only [Act.put, List.getElem_toArray, List.getElem_cons_succ, List.getElem_cons_zero, List.setIfInBounds_toArray, List.set_cons_zero, List.set_cons_succ]
          refine wpAnyH_ready (rs := [15]) (by kernel_rfl) (by simp) ?_
          refine AllReadyH.cons rfl (fun Kc hKc => ?_) AllReadyH.nil
          go_simp
          refine hKc.out _ _ trivial (fun hHeld => ?_)
          clear hKc Kc
          try simp only [Act.put, List.getElem_toArray, List.getElem_cons_succ, List.getElem_cons_zero, List.setIfInBounds_toArray, List.set_cons_zero, List.set_cons_succ]
          refine wpAnyH_done (by kernel_rfl) ?_ _
          go_wp2_with fail
          go_roundg (sw.length - (j + 1))
          case measure => omega
          case rel => exact ⟨j + 1, _, by omega, by omega, by go_num, HR.out.2.1, (by first | exact HR.out.2.2 | exact HR.out.2.2.drew), HR.out.1⟩
        · skip
          go_simp
          refine hKc.out _ _ trivial (fun hHeld => ?_)
          clear hKc Kc
          try simp only [Act.put, List.getElem_toArray, List.getElem_cons_succ, List.getElem_cons_zero, List.setIfInBounds_toArray, List.set_cons_zero, List.set_cons_succ]
          refine wpAnyH_ready (rs := [7]) (by kernel_rfl) (by simp) ?_
          refine AllReadyH.cons rfl (fun Kc hKc => ?_) AllReadyH.nil
          go_simp
          refine hKc.out _ _ trivial (fun hHeld => ?_)
          clear hKc Kc
          try simp only [Act.put, List.getElem_toArray, List.getElem_cons_succ, List.getElem_cons_zero, List.setIfInBounds_toArray, List.set_cons_zero, List.set_cons_succ]
          refine wpAnyH_take (i := 12) (v := ?vh28) rfl (by kernel_rfl) (by kernel_rfl) (by kernel_rfl) (fun _ _ _ h => h) (Or.inl ⟨by rfl, ?yh28⟩) hHeld ?_
          case yh28 => (intro w' hSw; (try dsimp only at hSw); go_simp); (try with_reducible rfl)
          try simp only [Act.put, List.getElem_toArray, List.getElem_cons_succ, List.getElem_cons_zero, List.setIfInBounds_toArray, List.set_cons_zero, List.set_cons_succ]
          refine wpAnyH_ready (rs := [13]) (by kernel_rfl) (by simp) ?_
          refine AllReadyH.cons rfl (fun Kc hKc => ?_) AllReadyH.nil
          go_simp
          refine hKc.out _ _ trivial (fun hHeld => ?_)
          clear hKc Kc
          try simp only [Act.put, List.getElem_toArray, List.getElem_cons_succ, List.getElem_cons_zero, List.setIfInBounds_toArray, List.set_cons_zero, List.set_cons_succ]
          refine wpAnyH_take (i := 14) (v := ?vh29) rfl (by kernel_rfl) (by kernel_rfl) (by kernel_rfl) (fun _ _ _ h => h) (Or.inl ⟨by rfl, ?yh29⟩) hHeld ?_
          case yh29 => (intro w' hSw; (try dsimp only at hSw); go_simp); (try with_reducible rfl)
          try simp only [Act.put, List.getElem_toArray, List.getElem_cons_succ, List.getElem_cons_zero, List.setIfInBounds_toArray, List.set_cons_zero, List.set_cons_succ]
          refine wpAnyH_ready (rs := [15]) (by kernel_rfl) (by simp) ?_
          refine AllReadyH.cons rfl (fun Kc hKc => ?_) AllReadyH.nil
          go_simp
          refine hKc.out _ _ trivial (fun hHeld => ?_)
          clear hKc Kc
          try simp only [Act.put, List.getElem_toArray, List.getElem_cons_succ, List.getElem_cons_zero, List.setIfInBounds_toArray, List.set_cons_zero, List.set_cons_succ]
          refine wpAnyH_done (by kernel_rfl) ?_ _
          go_wp2_with fail
          go_roundg (sw.length - (j + 1))
          case measure => omega
          case rel => exact ⟨j + 1, _, by omega, by omega, by go_num, HR.out.2.1, (by first | exact HR.out.2.2 | exact HR.out.2.2.drew), HR.out.1⟩
    · have hltz : ¬ (j : Int) < (sw.length : Int) := by omega
      have hlg := hperm.length_eq
      have hRl : ((rowL (reN N gs)).take q).length = q := by
        rw [List.length_take, rowL_len, HQ.out.2.2, hlg]
        have := HQ.out.2.1
        omega
      have hJe : Lib.join ((((rowL (reN N gs)).take q).map fun l => (⟨l.toArray⟩ : ByteArray)).map (·.data.toList)) (⟨#[]⟩ : ByteArray).data.toList = textP (reN N gs) := by
        rw [List.map_map]
        show Lib.join (((rowL (reN N gs)).take q).map fun l => l) [] = _
        rw [List.map_id', join_flat, ← rowL_join N gs, HQ.out.2.2, hlg, HQ.out.2.1]
      have hTl : (textP (reN N gs)).length ≤ 4194304 := by
        have := text_perm N hperm
        have h0 := HT.out
        unfold reN
        omega
      have hbl := row_lt hq
      have CJ := Tryz.strings_Join b 0 m (((rowL (reN N gs)).take q).map fun l => (⟨l.toArray⟩ : ByteArray)) ⟨#[]⟩ wr (fun i x hx => by
        rw [List.getElem?_map] at hx
        obtain ⟨y, hy, rfl⟩ := Option.map_eq_some_iff.1 hx
        have hy2 := (List.getElem?_eq_some_iff.1 hy).1
        rw [List.getElem?_take] at hy
        have hiq : i < q := by rw [hRl] at hy2; exact hy2
        rw [if_pos hiq] at hy
        rw [Nat.zero_add]
        exact cell_row hq (by rw [List.getElem?_toArray, List.getElem?_map, hy]; rfl)) hbl (by rw [List.length_map, hRl]; omega) (by rw [List.length_map, hRl]; exact h7) (by rw [hJe]; omega)
      rw [hJe, List.length_map, hRl] at CJ
      obtain ⟨o, hro, hol, hmo, hlo, hev⟩ := read_perm HH.out.1 hperm HT.out
      have HRO := hid (show readP (textP (reN N gs)) = (⟨N.pre, o, N.out⟩, 0, 0) from hro)
      have HEV := hid (And.intro hev (evalP_ok HH.out.1 HH.out.2))
      have hlo2 : litSum o ≤ 4611686018427387904 := by omega
      have HOL := hid hol
      clear hJe hRl hq hro hev hmo hlo hperm hltz hol
      have hltz : ¬ (j : Int) < (sw.length : Int) := by omega
      go_wp2_with fail
      refine CJ.mono ?_
      rintro e w8 ⟨rfl, hB8⟩
      have hB18 := below_le hB (Nat.le_refl _) hB8
      have CR := Read_any (textP (reN N gs)) w8 (envs w8 hB18) (by omega)
      rw [HRO.out] at CR
      clear CJ e0 e1 e2
      go_wp2_with fail
      refine CR.mono ?_
      rintro e w9 ⟨hB9, vn, rfl, hNm⟩
      obtain ⟨Bp, dp, Bg, dg, rfl⟩ := net_parts hNm
      rw [show (PNet.mk N.pre o N.out).gates.length = N.gates.length from HOL.out] at hNm ⊢
      have hB19 := below_le hB18 (Nat.le_refl _) hB9
      obtain ⟨wa, hwa, -, -, hza, hBa, qa⟩ := new_block w9 #[.slice Bp N.pre.length dp, .slice Bg N.gates.length dg, .int .i64 N.out] 40
      have hB1a := below_le hB19 (Nat.le_refl _) hBa
      obtain ⟨d0, d1, d2⟩ := rows wa hB1a
      have CE1 := Eval_any _ _ N a wa (nets wa hB1a) (ints wa hB1a) (by omega)
      rw [HEV.out.2] at CE1
      generalize holdsV (valsP N a) N.out = rv at CE1 HEV
      clear CR
      go_wp2_with fail
      refine CE1.mono ?_
      rintro e wb ⟨rfl, hBb⟩
      have hB1b := below_le hB1a (Nat.le_refl _) hBb
      have qb := row_below qa hBb
      have g0 : wb.cell? ⟨w9.heap.size, 0, none⟩ = some (.slice Bp N.pre.length dp) := cell_row qb (j := 0) rfl
      have g1 : wb.cell? ⟨w9.heap.size, 1, none⟩ = some (.slice Bg N.gates.length dg) := cell_row qb (j := 1) rfl
      have g2 : wb.cell? ⟨w9.heap.size, 2, none⟩ = some (.int .i64 N.out) := cell_row qb (j := 2) rfl
      have CE2 := Eval_any _ _ ⟨N.pre, o, N.out⟩ a wb (hNm.keep (keeps_below (below_then hBa hBa.size hBb))) (ints wb hB1b) hlo2
      rw [HEV.out.1, HEV.out.2] at CE2
      clear CE1 d0 d1 d2 hwa hNm
      go_wp2_with fail
      refine CE2.mono ?_
      rintro e wc ⟨rfl, hBc⟩
      have hB1c := below_le hB1b (Nat.le_refl _) hBc
      have qc := row_below qb hBc
      have g1 : wc.cell? ⟨w9.heap.size, 1, none⟩ = some (.slice Bg N.gates.length dg) := cell_row qc (j := 1) rfl
      obtain ⟨d0, d1, d2⟩ := rows wc hB1c
      clear CE2
      go_wp2_with fail
      refine (works_any wc (envs wc hB1c)).mono ?_
      rintro e wk ⟨rfl, hBk⟩
      go_wp2_with fail
      go_ret
      exact ⟨rfl, fin wk (below_le hB1c (Nat.le_refl _) hBk)⟩
end Go.Proofs.YtnlobmepajakcaaGreatDoor
