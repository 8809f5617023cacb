/- What QcirSpaces returns: true; the condition: texts have at most 2^62 bytes. -/
import Derived.Test.YtnlobmepajakcaaGreatDoorLawB
import Derived.Test.YtnlobmepajakcaaGreatDoorSpD
set_option linter.unusedVariables false
set_option linter.unusedSimpArgs false
namespace Go.Proofs.YtnlobmepajakcaaGreatDoor
open Go.RowKit Go.Shelf
attribute [local go_sem] Oper.semAt_some

set_option maxRecDepth 100000 in
set_option maxHeartbeats 4000000 in
theorem QcirSpaces_long (s : Bs) (v : Value) (xs : Bs) (w : World) (hl : s.length ≤ 4611686018427387904) (hat : BytesAt w v xs) (hE : Env w) (h : 4000 < s.length) :
    Calls Tryz.prog 3 #[.string ⟨s.toArray⟩, v] w fun e w' => e = .returned (.bool true) ∧ Below w.heap.size w w' := by
  obtain ⟨A, c, rfl, hlc, hcm⟩ := hat.form
  obtain ⟨w1, hw1, -, -, hz1, hB1, q1⟩ := new_block w #[.slice A xs.length c] 22
  have c1 := cell_row q1 (j := 0) (v := .slice A xs.length c) rfl
  have hz : (4000 : Int) < (s.length : Int) := by omega
  clear h hat
  go_enter Tryz.func3, Tryz.ntmps3
  go_wp2_with fail
  refine (works_any w1 (hE.below hB1 hE.size)).mono ?_
  rintro e wk ⟨rfl, hBk⟩
  go_wp2_with fail
  go_ret
  exact ⟨rfl, below_then hB1 hB1.size hBk⟩
set_option maxRecDepth 100000 in
set_option maxHeartbeats 4000000 in
theorem QcirSpaces_none (s : Bs) (v : Value) (xs : Bs) (w : World) (hl : s.length ≤ 4611686018427387904) (hat : BytesAt w v xs) (hE : Env w) (h : ¬ 4000 < s.length) (h0 : xs.length = 0) :
    Calls Tryz.prog 3 #[.string ⟨s.toArray⟩, v] w fun e w' => e = .returned (.bool true) ∧ Below w.heap.size w w' := by
  obtain ⟨A, c, rfl, hlc, hcm⟩ := hat.form
  obtain ⟨w1, hw1, -, -, hz1, hB1, q1⟩ := new_block w #[.slice A xs.length c] 22
  have c1 := cell_row q1 (j := 0) (v := .slice A xs.length c) rfl
  have hz : decide ((4000 : Int) < (s.length : Int)) = false := decide_eq_false (by omega)
  have hz0 : ((xs.length : Int) == 0) = true := by rw [h0]; rfl
  clear h h0 hat
  go_enter Tryz.func3, Tryz.ntmps3
  go_wp2_with fail
  refine (works_any w1 (hE.below hB1 hE.size)).mono ?_
  rintro e wk ⟨rfl, hBk⟩
  go_wp2_with fail
  go_ret
  exact ⟨rfl, below_then hB1 hB1.size hBk⟩
set_option maxRecDepth 100000 in
set_option maxHeartbeats 4000000 in
theorem QcirSpaces_many (s : Bs) (v : Value) (xs : Bs) (w : World) (hl : s.length ≤ 4611686018427387904) (hat : BytesAt w v xs) (hE : Env w) (h : ¬ 4000 < s.length) (h0 : ¬ xs.length = 0) (h1 : 1000 < xs.length) :
    Calls Tryz.prog 3 #[.string ⟨s.toArray⟩, v] w fun e w' => e = .returned (.bool true) ∧ Below w.heap.size w w' := by
  obtain ⟨A, c, rfl, hlc, hcm⟩ := hat.form
  obtain ⟨w1, hw1, -, -, hz1, hB1, q1⟩ := new_block w #[.slice A xs.length c] 22
  have c1 := cell_row q1 (j := 0) (v := .slice A xs.length c) rfl
  have hz : decide ((4000 : Int) < (s.length : Int)) = false := decide_eq_false (by omega)
  have hz0 : ((xs.length : Int) == 0) = false := beq_eq_false_iff_ne.2 (by omega)
  have hz1 : (1000 : Int) < (xs.length : Int) := by omega
  clear h h0 h1 hat
  go_enter Tryz.func3, Tryz.ntmps3
  go_wp2_with fail
  refine (works_any w1 (hE.below hB1 hE.size)).mono ?_
  rintro e wk ⟨rfl, hBk⟩
  go_wp2_with fail
  go_ret
  exact ⟨rfl, below_then hB1 hB1.size hBk⟩
set_option maxRecDepth 100000 in
set_option maxHeartbeats 4000000 in
theorem QcirSpaces_hash (s : Bs) (v : Value) (xs : Bs) (w : World) (hl : s.length ≤ 4611686018427387904) (hat : BytesAt w v xs) (hE : Env w) (h : ¬ 4000 < s.length) (h0 : ¬ xs.length = 0) (h1 : ¬ 1000 < xs.length) (h35 : decide (0 ≤ Lib.indexByte s 35) = true) :
    Calls Tryz.prog 3 #[.string ⟨s.toArray⟩, v] w fun e w' => e = .returned (.bool true) ∧ Below w.heap.size w w' := by
  obtain ⟨A, c, rfl, hlc, hcm⟩ := hat.form
  obtain ⟨w1, hw1, -, -, hz1, hB1, q1⟩ := new_block w #[.slice A xs.length c] 22
  have c1 := cell_row q1 (j := 0) (v := .slice A xs.length c) rfl
  have hz : decide ((4000 : Int) < (s.length : Int)) = false := decide_eq_false (by omega)
  have hz0 : ((xs.length : Int) == 0) = false := beq_eq_false_iff_ne.2 (by omega)
  have hz1 : decide ((1000 : Int) < (xs.length : Int)) = false := decide_eq_false (by omega)
  have CC := contains_any s w1
  rw [h35] at CC
  clear h h0 h1 hat h35
  go_enter Tryz.func3, Tryz.ntmps3
  go_wp2_with (first | (go_at_call 10; refine CC.mono ?_; rintro e w' ⟨rfl, hw⟩; obtain rfl : w1 = w' := hw.symm) | fail)
  refine (works_any w1 (hE.below hB1 hE.size)).mono ?_
  rintro e wk ⟨rfl, hBk⟩
  go_wp2_with fail
  go_ret
  exact ⟨rfl, below_then hB1 hB1.size hBk⟩
set_option maxRecDepth 100000 in
set_option maxHeartbeats 40000000 in
theorem QcirSpaces_good (s : Bs) (v : Value) (xs : Bs) (w : World) (hl : s.length ≤ 4611686018427387904) (hat : BytesAt w v xs) (hE : Env w) (h : ¬ 4000 < s.length) (h0 : ¬ xs.length = 0) (h1 : ¬ 1000 < xs.length) (h35 : decide (0 ≤ Lib.indexByte s 35) = false) :
    Calls Tryz.prog 3 #[.string ⟨s.toArray⟩, v] w fun e w' => e = .returned (.bool true) ∧ Below w.heap.size w w' := by
  obtain ⟨A, c, rfl, hlc, hcm⟩ := hat.form
  obtain ⟨w1, hw1, -, -, hz1, hB1, q1⟩ := new_block w #[.slice A xs.length c] 22
  have c1 := cell_row q1 (j := 0) (v := .slice A xs.length c) rfl
  have hz : decide ((4000 : Int) < (s.length : Int)) = false := decide_eq_false (by omega)
  have hz0 : ((xs.length : Int) == 0) = false := beq_eq_false_iff_ne.2 (by omega)
  have hx1 : decide ((1000 : Int) < (xs.length : Int)) = false := decide_eq_false (by omega)
  have hpos : 0 < xs.length := by omega
  have hle : xs.length ≤ 1000 := by omega
  have hsl : s.length ≤ 4000 := by omega
  have CC := contains_any s w1
  rw [h35] at CC
  have H35 := hid (no35 h35)
  have E12 : ∀ args w, (callFunc 12 args).run Tryz.prog w = .ok (.enter 12 args) w := enters_of Tryz.func12 (by kernel_rfl) rfl
  obtain ⟨w2, hw2, -, -, hz2, hB2, q2⟩ := new_block w1 #[.pointer none, .slice none 0 0] 27
  obtain ⟨w3, hw3, -, -, hz3, hB3, q3⟩ := new_block w2 #[.int .i64 0] 3
  have hBl : Bld w1.heap.size w1.heap.size [] w2 := by rw [← hw2]; exact bld_fresh w1
  have hBl3 := hBl.below hB3
  have q13 := row_below (row_below q1 hB2) hB3
  have hB03 := below_then hB1 hB1.size (below_then hB2 hB2.size hB3)
  have f3 := row_below q2 hB3
  rw [hz1] at f3
  rw [hz2, hz1] at q3
  rw [hz1] at hBl3
  have k0 := cell_row q3 (j := 0) (v := .int .i64 0) rfl
  have kf := frozen_of_row _ _ 0 _ _ q3
  obtain ⟨w4, hw4⟩ : ∃ w4, w3.setCell ⟨w.heap.size + 1 + 1, 0, none⟩ (.int .i64 0) = w4 := ⟨_, rfl⟩
  have hk4 : ∀ k, k ≠ w.heap.size + 1 + 1 → w4.heap[k]? = w3.heap[k]? := fun k hk => by rw [← hw4]; exact heap_setCell_other w3 ⟨w.heap.size + 1 + 1, 0, none⟩ k _ (fun e => hk e)
  have P0 : SpI w w.heap.size (w.heap.size + 1) (w.heap.size + 1 + 1) A xs.length c 0 [] w4 := by
    refine ⟨?_, (hk4 _ (by omega)).trans q13, ?_, hBl3.other q3 (by decide) (by omega) hk4⟩
    · rw [← hw4]
      exact hB03.setCell (p := ⟨w.heap.size + 1 + 1, 0, none⟩) (by show w.heap.size ≤ w.heap.size + 1 + 1; omega) _
    · rw [← hw4]
      exact row_set q3 (i := 0) _
  have f4 := (hk4 _ (by omega)).trans f3
  clear h h0 h1 h35 hBl q1 q2 q3 hBl3 q13 hB03 hk4 f3
  go_enter Tryz.func3, Tryz.ntmps3
  go_wp2_with (first | (go_at_call 10; refine CC.mono ?_; rintro e w' ⟨rfl, hw⟩; obtain rfl : w1 = w' := hw.symm) | fail)
  clear hw4 kf k0 c1 CC hw1 hw2 hw3
  go_loopg [8, 9, 37] s.length (fun gg s8 s9 s37 wr => ∃ (j i : Nat) (t : Bs), j ≤ s.length ∧ s.length - j ≤ gg ∧ s37 = .int .i64 (j : Int) ∧ i ≤ 3 * j ∧ t.length ≤ 9 * j ∧ j ≤ t.length ∧ SpI w w.heap.size (w.heap.size + 1) (w.heap.size + 1 + 1) A xs.length c i t wr ∧ Hid (SpT (s.take j) t) ∧ Hid (j = 0 → wr.heap[w.heap.size + 1]? = some (.cells #[.pointer none, .slice none 0 0] 27 (0, 0))))
  case atStart => exact ⟨0, 0, [], by omega, by omega, rfl, by omega, by simp, by simp, P0, hid .nil, hid (fun _ => f4)⟩
  case round =>
    clear P0
    obtain ⟨j, i, t, hj, hgg, rfl, hi3, htl, htj, P, HT, H0⟩ := hrel
    by_cases hlt : j < s.length
    · have hltz : (j : Int) < (s.length : Int) := by omega
      obtain ⟨cc, hcj, hcm, -⟩ := nth hlt
      have hb := byte_at hcj
      have HS := hid (take_snoc hcj)
      have CI := indexP_any cc wr
      clear hcj
      cases hp : isPun cc with
      | true =>
        rw [hp] at CI
        have HP := hid hp
        clear hp
        go_wp2_with (first | (go_at_call 13; refine CI.mono ?_; rintro e w' ⟨⟨y, rfl, hy⟩, hw⟩; obtain rfl : wr = w' := hw.symm) | fail)
        have RELT : Hid (∀ (LA LB : Bs) (ra rb : Nat), LA = List.replicate ra 32 → LB = List.replicate rb 32 → Hid (SpT (s.take (j + 1)) (t ++ (LA ++ [cc] ++ LB)))) := hid (fun LA LB ra rb e1 e2 => by
          subst e1; subst e2
          rw [HS.out]
          exact hid (SpT.snoc_pun HT.out HP.out ra rb))
        have hAl : Hid (∀ W : World, ∃ w1, W.alloc (.cells #[.int .u8 (cc.toNat : Int)] 5) = w1 ∧ Below W.heap.size W w1 ∧ w1.heap.size = W.heap.size + 1 ∧ w1.heap[W.heap.size]? = some (.cells #[.int .u8 (cc.toNat : Int)] 5 (0, 0))) := hid (fun W => by
          obtain ⟨w1, hw1, -, -, hz1, hB1, q1⟩ := new_block W #[.int .u8 (cc.toNat : Int)] 5
          exact ⟨w1, hw1, hB1, hz1, q1⟩)
        have hcv : Hid (∀ (W : World) (a c : Nat), W.heap[a]? = some (.cells #[.int .u8 (cc.toNat : Int)] 5 (0, 0)) → (convert 22 9 (.slice (some ⟨a, 0, none⟩) 1 c)).run Tryz.prog W = .ok (.string ⟨#[cc]⟩) W) := hid (fun W a c hq => by
          have := byte_string (c := c) (d := cc.toNat) rfl cc.toNat_lt hq
          rwa [show UInt8.ofNat cc.toNat = cc by simp] at this)
        clear hb hltz HT HS HP hy CI hcm
        refine wp_region_held_drew (S := fun _ => True) (by kernel_rfl) trivial (fun hHeld => ?_)
        have PD : SpI w w.heap.size (w.heap.size + 1) (w.heap.size + 1 + 1) A xs.length c i t wr.drew := ⟨P.below.drew, P.box, P.cnt, P.bld.below (Below.refl _ wr).drew⟩
        clear P
        generalize wr.drew = Wd at *
        refine wpAnyH_take (i := 0) (v := ?vn1) rfl (by kernel_rfl) (by kernel_rfl) (by kernel_rfl) (fun _ _ _ h => h) (Or.inl ⟨by rfl, ?yn1⟩) hHeld ?_
        case yn1 => (intro w' hSw; (try dsimp only at hSw); go_simp); (try with_reducible rfl)
        try simp only [Act.put, List.setIfInBounds_toArray, List.set_cons_zero, List.set_cons_succ]
        refine wpAnyH_take (i := 5) (v := ?vn2) rfl (by kernel_rfl) (by kernel_rfl) (by kernel_rfl) (fun _ _ _ h => h) (Or.inl ⟨by rfl, ?yn2⟩) hHeld ?_
        case yn2 => (intro w' hSw; (try dsimp only at hSw); go_simp); (try with_reducible rfl)
        try simp only [Act.put, List.setIfInBounds_toArray, List.set_cons_zero, List.set_cons_succ]
        refine wpAnyH_take (i := 9) (v := ?vn3) rfl (by kernel_rfl) (by kernel_rfl) (by kernel_rfl) (fun _ _ _ h => h) (Or.inl ⟨by rfl, ?yn3⟩) hHeld ?_
        case yn3 => (intro w' hSw; (try dsimp only at hSw); go_simp); (try with_reducible rfl)
        try simp only [Act.put, List.setIfInBounds_toArray, List.set_cons_zero, List.set_cons_succ]
        refine wpAnyH_ready (rs := [1,6]) (by kernel_rfl) (by simp) ?_
        refine AllReadyH.cons rfl (fun Kc hKc => ?_) (AllReadyH.cons rfl (fun Kc hKc => ?_) AllReadyH.nil)
        · skip
          have CN := PD.next (by omega) (by omega) (by omega) hat hpos hle (by omega)
          go_simp
          refine CN.mono ?_
          rintro e wa1 ⟨⟨m, hm, rfl⟩, P2, hKwa1⟩
          clear CN
          have hmd : (m : Int).tmod 3 = ((m % 3 : Nat) : Int) := mod_three
          have hq : m % 3 < 3 := Nat.mod_lt _ (by decide)
          generalize m % 3 = ra at hmd hq
          have hu : IntKind.u8.wrap (ra : Int) = (ra : Int) := IntWalk.u8_in _ (by omega)
          have hi : IntKind.i64.wrap (ra : Int) = (ra : Int) := IntWalk.i64_in _ (by omega)
          go_wp2_with fail
          refine hKc.out _ _ trivial (fun hHeld => ?_)
          clear hKc Kc
          try simp only [Act.put, List.setIfInBounds_toArray, List.set_cons_zero, List.set_cons_succ]
          refine wpAnyH_take (i := 2) (v := ?vn4) rfl (by kernel_rfl) (by kernel_rfl) (by kernel_rfl) (fun _ _ _ h => h) (Or.inl ⟨by rfl, ?yn4⟩) hHeld ?_
          case yn4 => (intro w' hSw; (try dsimp only at hSw); go_simp); (try with_reducible rfl)
          try simp only [Act.put, List.setIfInBounds_toArray, List.set_cons_zero, List.set_cons_succ]
          refine wpAnyH_take (i := 3) (v := ?vn5) rfl (by kernel_rfl) (by kernel_rfl) (by kernel_rfl) (fun _ _ _ h => h) (Or.inl ⟨by rfl, ?yn5⟩) hHeld ?_
          case yn5 => (intro w' hSw; (try dsimp only at hSw); go_simp); (try with_reducible rfl)
          try simp only [Act.put, List.setIfInBounds_toArray, List.set_cons_zero, List.set_cons_succ]
          clear hmd hu hi hm
          refine wpAnyH_ready (rs := [4,6]) (by kernel_rfl) (by simp) ?_
          refine AllReadyH.cons rfl (fun Kc hKc => ?_) (AllReadyH.cons rfl (fun Kc hKc => ?_) AllReadyH.nil)
          · skip
            have CR := repS_any ra wa1 (by omega)
            go_simp
            go_at_call 15
            refine CR.mono ?_
            rintro e wb3 ⟨⟨LA, rfl, hLA, hnLA⟩, hBwb3⟩
            clear CR
            replace hLA := hid hLA
            have P4 := P2.under hBwb3
            go_wp2_with fail
            refine hKc.out _ _ trivial (fun hHeld => ?_)
            clear hKc Kc
            try simp only [Act.put, List.setIfInBounds_toArray, List.set_cons_zero, List.set_cons_succ]
            refine wpAnyH_ready (rs := [6,10]) (by kernel_rfl) (by simp) ?_
            refine AllReadyH.cons rfl (fun Kc hKc => ?_) (AllReadyH.cons rfl (fun Kc hKc => ?_) AllReadyH.nil)
            · skip
              obtain ⟨wl5, hwwl5, hBwl5, hzwl5, qx7⟩ := hAl.out wb3
              have P6 := P4.under hBwl5
              go_simp
              refine hKc.out _ _ trivial (fun hHeld => ?_)
              clear hKc Kc
              try simp only [Act.put, List.setIfInBounds_toArray, List.set_cons_zero, List.set_cons_succ]
              have hlxwl5 := P4.lt
              refine wpAnyH_ready (rs := [7,10]) (by kernel_rfl) (by simp) ?_
              refine AllReadyH.cons rfl (fun Kc hKc => ?_) (AllReadyH.cons rfl (fun Kc hKc => ?_) AllReadyH.nil)
              · skip
                have hc := hcv.out wl5 wb3.heap.size 1 qx7
                go_simp
                refine hKc.out _ _ trivial (fun hHeld => ?_)
                clear hKc Kc
                try simp only [Act.put, List.setIfInBounds_toArray, List.set_cons_zero, List.set_cons_succ]
                clear hc
                refine wpAnyH_take (i := 8) (v := ?vn6) rfl (by kernel_rfl) (by kernel_rfl) (by kernel_rfl) (fun _ _ _ h => h) (Or.inl ⟨by rfl, ?yn6⟩) hHeld ?_
                case yn6 => (intro w' hSw; (try dsimp only at hSw); go_simp; rw [if_neg (by omega)]); (try with_reducible rfl)
                try simp only [Act.put, List.setIfInBounds_toArray, List.set_cons_zero, List.set_cons_succ]
                try simp only [Act.put, List.getElem_toArray, List.getElem_cons_succ, List.getElem_cons_zero, List.setIfInBounds_toArray, List.set_cons_zero, List.set_cons_succ]
                refine wpAnyH_ready (rs := [10]) (by kernel_rfl) (by simp) ?_
                refine AllReadyH.cons rfl (fun Kc hKc => ?_) AllReadyH.nil
                have CN := P6.next (by omega) (by omega) (by omega) hat hpos hle (by omega)
                go_simp
                refine CN.mono ?_
                rintro e wa8 ⟨⟨m, hm, rfl⟩, P9, hKwa8⟩
                clear CN
                have hmd : (m : Int).tmod 2 = ((m % 2 : Nat) : Int) := mod_two
                have hq : m % 2 < 2 := Nat.mod_lt _ (by decide)
                generalize m % 2 = rb at hmd hq
                have hu : IntKind.u8.wrap (rb : Int) = (rb : Int) := IntWalk.u8_in _ (by omega)
                have hi : IntKind.i64.wrap (rb : Int) = (rb : Int) := IntWalk.i64_in _ (by omega)
                go_wp2_with fail
                refine hKc.out _ _ trivial (fun hHeld => ?_)
                clear hKc Kc
                try simp only [Act.put, List.setIfInBounds_toArray, List.set_cons_zero, List.set_cons_succ]
                refine wpAnyH_take (i := 11) (v := ?vn7) rfl (by kernel_rfl) (by kernel_rfl) (by kernel_rfl) (fun _ _ _ h => h) (Or.inl ⟨by rfl, ?yn7⟩) hHeld ?_
                case yn7 => (intro w' hSw; (try dsimp only at hSw); go_simp); (try with_reducible rfl)
                try simp only [Act.put, List.setIfInBounds_toArray, List.set_cons_zero, List.set_cons_succ]
                refine wpAnyH_take (i := 12) (v := ?vn8) rfl (by kernel_rfl) (by kernel_rfl) (by kernel_rfl) (fun _ _ _ h => h) (Or.inl ⟨by rfl, ?yn8⟩) hHeld ?_
                case yn8 => (intro w' hSw; (try dsimp only at hSw); go_simp); (try with_reducible rfl)
                try simp only [Act.put, List.setIfInBounds_toArray, List.set_cons_zero, List.set_cons_succ]
                clear hmd hu hi hm
                refine wpAnyH_ready (rs := [13]) (by kernel_rfl) (by simp) ?_
                refine AllReadyH.cons rfl (fun Kc hKc => ?_) AllReadyH.nil
                have CR := repS_any rb wa8 (by omega)
                go_simp
                go_at_call 15
                refine CR.mono ?_
                rintro e wb10 ⟨⟨LB, rfl, hLB, hnLB⟩, hBwb10⟩
                clear CR
                replace hLB := hid hLB
                have P11 := P9.under hBwb10
                go_wp2_with fail
                refine hKc.out _ _ trivial (fun hHeld => ?_)
                clear hKc Kc
                try simp only [Act.put, List.setIfInBounds_toArray, List.set_cons_zero, List.set_cons_succ]
                refine wpAnyH_take (i := 14) (v := ?vn9) rfl (by kernel_rfl) (by kernel_rfl) (by kernel_rfl) (fun _ _ _ h => h) (Or.inl ⟨by rfl, ?yn9⟩) hHeld ?_
                case yn9 => (intro w' hSw; (try dsimp only at hSw); go_simp; rw [if_neg (by omega)]); (try with_reducible rfl)
                try simp only [Act.put, List.setIfInBounds_toArray, List.set_cons_zero, List.set_cons_succ]
                try simp only [Act.put, List.getElem_toArray, List.getElem_cons_succ, List.getElem_cons_zero, List.setIfInBounds_toArray, List.set_cons_zero, List.set_cons_succ]
                refine wpAnyH_ready (rs := [15]) (by kernel_rfl) (by simp) ?_
                refine AllReadyH.cons rfl (fun Kc hKc => ?_) AllReadyH.nil
                have CW := P11.write (by omega) (by omega) (by omega) (LA ++ [cc] ++ LB) (by simp only [List.length_append, List.length_cons, List.length_nil]; omega)
                rw [← ba_app, ← ba_app] at CW
                go_simp
                go_at_call 14
                refine CW.mono ?_
                rintro e wz12 ⟨rfl, PZ⟩
                go_wp2_with fail
                refine hKc.out _ _ trivial (fun hHeld => ?_)
                clear hKc Kc
                try simp only [Act.put, List.setIfInBounds_toArray, List.set_cons_zero, List.set_cons_succ]
                refine wpAnyH_done (by kernel_rfl) ?_ _
                go_wp2_with fail
                go_roundg (s.length - (j + 1))
                case measure => omega
                case rel => exact ⟨j + 1, i + 1 + 1, t ++ (LA ++ [cc] ++ LB), by omega, by omega, by go_num, by omega, by simp only [List.length_append, List.length_cons, List.length_nil]; omega, by simp only [List.length_append, List.length_cons, List.length_nil]; omega, PZ, RELT.out LA LB ra rb hLA.out hLB.out, hid (fun e => absurd e (by omega))⟩
              · skip
                have CN := P6.next (by omega) (by omega) (by omega) hat hpos hle (by omega)
                go_simp
                refine CN.mono ?_
                rintro e wa13 ⟨⟨m, hm, rfl⟩, P14, hKwa13⟩
                clear CN
                have hmd : (m : Int).tmod 2 = ((m % 2 : Nat) : Int) := mod_two
                have hq : m % 2 < 2 := Nat.mod_lt _ (by decide)
                generalize m % 2 = rb at hmd hq
                have hu : IntKind.u8.wrap (rb : Int) = (rb : Int) := IntWalk.u8_in _ (by omega)
                have hi : IntKind.i64.wrap (rb : Int) = (rb : Int) := IntWalk.i64_in _ (by omega)
                have qx15 := hKwa13 _ _ (by have := P6.lt; omega) qx7
                go_wp2_with fail
                refine hKc.out _ _ trivial (fun hHeld => ?_)
                clear hKc Kc
                try simp only [Act.put, List.setIfInBounds_toArray, List.set_cons_zero, List.set_cons_succ]
                refine wpAnyH_take (i := 11) (v := ?vn10) rfl (by kernel_rfl) (by kernel_rfl) (by kernel_rfl) (fun _ _ _ h => h) (Or.inl ⟨by rfl, ?yn10⟩) hHeld ?_
                case yn10 => (intro w' hSw; (try dsimp only at hSw); go_simp); (try with_reducible rfl)
                try simp only [Act.put, List.setIfInBounds_toArray, List.set_cons_zero, List.set_cons_succ]
                refine wpAnyH_take (i := 12) (v := ?vn11) rfl (by kernel_rfl) (by kernel_rfl) (by kernel_rfl) (fun _ _ _ h => h) (Or.inl ⟨by rfl, ?yn11⟩) hHeld ?_
                case yn11 => (intro w' hSw; (try dsimp only at hSw); go_simp); (try with_reducible rfl)
                try simp only [Act.put, List.setIfInBounds_toArray, List.set_cons_zero, List.set_cons_succ]
                clear hmd hu hi hm
                refine wpAnyH_ready (rs := [7,13]) (by kernel_rfl) (by simp) ?_
                refine AllReadyH.cons rfl (fun Kc hKc => ?_) (AllReadyH.cons rfl (fun Kc hKc => ?_) AllReadyH.nil)
                · skip
                  have hc := hcv.out wa13 wb3.heap.size 1 qx15
                  go_simp
                  refine hKc.out _ _ trivial (fun hHeld => ?_)
                  clear hKc Kc
                  try simp only [Act.put, List.setIfInBounds_toArray, List.set_cons_zero, List.set_cons_succ]
                  clear hc
                  refine wpAnyH_take (i := 8) (v := ?vn12) rfl (by kernel_rfl) (by kernel_rfl) (by kernel_rfl) (fun _ _ _ h => h) (Or.inl ⟨by rfl, ?yn12⟩) hHeld ?_
                  case yn12 => (intro w' hSw; (try dsimp only at hSw); go_simp; rw [if_neg (by omega)]); (try with_reducible rfl)
                  try simp only [Act.put, List.setIfInBounds_toArray, List.set_cons_zero, List.set_cons_succ]
                  try simp only [Act.put, List.getElem_toArray, List.getElem_cons_succ, List.getElem_cons_zero, List.setIfInBounds_toArray, List.set_cons_zero, List.set_cons_succ]
                  refine wpAnyH_ready (rs := [13]) (by kernel_rfl) (by simp) ?_
                  refine AllReadyH.cons rfl (fun Kc hKc => ?_) AllReadyH.nil
                  have CR := repS_any rb wa13 (by omega)
                  go_simp
                  go_at_call 15
                  refine CR.mono ?_
                  rintro e wb16 ⟨⟨LB, rfl, hLB, hnLB⟩, hBwb16⟩
                  clear CR
                  replace hLB := hid hLB
                  have P17 := P14.under hBwb16
                  go_wp2_with fail
                  refine hKc.out _ _ trivial (fun hHeld => ?_)
                  clear hKc Kc
                  try simp only [Act.put, List.setIfInBounds_toArray, List.set_cons_zero, List.set_cons_succ]
                  refine wpAnyH_take (i := 14) (v := ?vn13) rfl (by kernel_rfl) (by kernel_rfl) (by kernel_rfl) (fun _ _ _ h => h) (Or.inl ⟨by rfl, ?yn13⟩) hHeld ?_
                  case yn13 => (intro w' hSw; (try dsimp only at hSw); go_simp; rw [if_neg (by omega)]); (try with_reducible rfl)
                  try simp only [Act.put, List.setIfInBounds_toArray, List.set_cons_zero, List.set_cons_succ]
                  try simp only [Act.put, List.getElem_toArray, List.getElem_cons_succ, List.getElem_cons_zero, List.setIfInBounds_toArray, List.set_cons_zero, List.set_cons_succ]
                  refine wpAnyH_ready (rs := [15]) (by kernel_rfl) (by simp) ?_
                  refine AllReadyH.cons rfl (fun Kc hKc => ?_) AllReadyH.nil
                  have CW := P17.write (by omega) (by omega) (by omega) (LA ++ [cc] ++ LB) (by simp only [List.length_append, List.length_cons, List.length_nil]; omega)
                  rw [← ba_app, ← ba_app] at CW
                  go_simp
                  go_at_call 14
                  refine CW.mono ?_
                  rintro e wz18 ⟨rfl, PZ⟩
                  go_wp2_with fail
                  refine hKc.out _ _ trivial (fun hHeld => ?_)
                  clear hKc Kc
                  try simp only [Act.put, List.setIfInBounds_toArray, List.set_cons_zero, List.set_cons_succ]
                  refine wpAnyH_done (by kernel_rfl) ?_ _
                  go_wp2_with fail
                  go_roundg (s.length - (j + 1))
                  case measure => omega
                  case rel => exact ⟨j + 1, i + 1 + 1, t ++ (LA ++ [cc] ++ LB), by omega, by omega, by go_num, by omega, by simp only [List.length_append, List.length_cons, List.length_nil]; omega, by simp only [List.length_append, List.length_cons, List.length_nil]; omega, PZ, RELT.out LA LB ra rb hLA.out hLB.out, hid (fun e => absurd e (by omega))⟩
                · skip
                  have CR := repS_any rb wa13 (by omega)
                  go_simp
                  go_at_call 15
                  refine CR.mono ?_
                  rintro e wb19 ⟨⟨LB, rfl, hLB, hnLB⟩, hBwb19⟩
                  clear CR
                  replace hLB := hid hLB
                  have P20 := P14.under hBwb19
                  have qx21 := row_below qx15 hBwb19
                  go_wp2_with fail
                  refine hKc.out _ _ trivial (fun hHeld => ?_)
                  clear hKc Kc
                  try simp only [Act.put, List.setIfInBounds_toArray, List.set_cons_zero, List.set_cons_succ]
                  refine wpAnyH_ready (rs := [7]) (by kernel_rfl) (by simp) ?_
                  refine AllReadyH.cons rfl (fun Kc hKc => ?_) AllReadyH.nil
                  have hc := hcv.out wb19 wb3.heap.size 1 qx21
                  go_simp
                  refine hKc.out _ _ trivial (fun hHeld => ?_)
                  clear hKc Kc
                  try simp only [Act.put, List.setIfInBounds_toArray, List.set_cons_zero, List.set_cons_succ]
                  clear hc
                  refine wpAnyH_take (i := 8) (v := ?vn14) rfl (by kernel_rfl) (by kernel_rfl) (by kernel_rfl) (fun _ _ _ h => h) (Or.inl ⟨by rfl, ?yn14⟩) hHeld ?_
                  case yn14 => (intro w' hSw; (try dsimp only at hSw); go_simp; rw [if_neg (by omega)]); (try with_reducible rfl)
                  try simp only [Act.put, List.setIfInBounds_toArray, List.set_cons_zero, List.set_cons_succ]
                  try simp only [Act.put, List.getElem_toArray, List.getElem_cons_succ, List.getElem_cons_zero, List.setIfInBounds_toArray, List.set_cons_zero, List.set_cons_succ]
                  refine wpAnyH_take (i := 14) (v := ?vn15) rfl (by kernel_rfl) (by kernel_rfl) (by kernel_rfl) (fun _ _ _ h => h) (Or.inl ⟨by rfl, ?yn15⟩) hHeld ?_
                  case yn15 => (intro w' hSw; (try dsimp only at hSw); go_simp; rw [if_neg (by omega)]); (try with_reducible rfl)
                  try simp only [Act.put, List.setIfInBounds_toArray, List.set_cons_zero, List.set_cons_succ]
                  try simp only [Act.put, List.getElem_toArray, List.getElem_cons_succ, List.getElem_cons_zero, List.setIfInBounds_toArray, List.set_cons_zero, List.set_cons_succ]
                  refine wpAnyH_ready (rs := [15]) (by kernel_rfl) (by simp) ?_
                  refine AllReadyH.cons rfl (fun Kc hKc => ?_) AllReadyH.nil
                  have CW := P20.write (by omega) (by omega) (by omega) (LA ++ [cc] ++ LB) (by simp only [List.length_append, List.length_cons, List.length_nil]; omega)
                  rw [← ba_app, ← ba_app] at CW
                  go_simp
                  go_at_call 14
                  refine CW.mono ?_
                  rintro e wz22 ⟨rfl, PZ⟩
                  go_wp2_with fail
                  refine hKc.out _ _ trivial (fun hHeld => ?_)
                  clear hKc Kc
                  try simp only [Act.put, List.setIfInBounds_toArray, List.set_cons_zero, List.set_cons_succ]
                  refine wpAnyH_done (by kernel_rfl) ?_ _
                  go_wp2_with fail
                  go_roundg (s.length - (j + 1))
                  case measure => omega
                  case rel => exact ⟨j + 1, i + 1 + 1, t ++ (LA ++ [cc] ++ LB), by omega, by omega, by go_num, by omega, by simp only [List.length_append, List.length_cons, List.length_nil]; omega, by simp only [List.length_append, List.length_cons, List.length_nil]; omega, PZ, RELT.out LA LB ra rb hLA.out hLB.out, hid (fun e => absurd e (by omega))⟩
            · skip
              have CN := P4.next (by omega) (by omega) (by omega) hat hpos hle (by omega)
              go_simp
              refine CN.mono ?_
              rintro e wa23 ⟨⟨m, hm, rfl⟩, P24, hKwa23⟩
              clear CN
              have hmd : (m : Int).tmod 2 = ((m % 2 : Nat) : Int) := mod_two
              have hq : m % 2 < 2 := Nat.mod_lt _ (by decide)
              generalize m % 2 = rb at hmd hq
              have hu : IntKind.u8.wrap (rb : Int) = (rb : Int) := IntWalk.u8_in _ (by omega)
              have hi : IntKind.i64.wrap (rb : Int) = (rb : Int) := IntWalk.i64_in _ (by omega)
              go_wp2_with fail
              refine hKc.out _ _ trivial (fun hHeld => ?_)
              clear hKc Kc
              try simp only [Act.put, List.setIfInBounds_toArray, List.set_cons_zero, List.set_cons_succ]
              refine wpAnyH_take (i := 11) (v := ?vn16) rfl (by kernel_rfl) (by kernel_rfl) (by kernel_rfl) (fun _ _ _ h => h) (Or.inl ⟨by rfl, ?yn16⟩) hHeld ?_
              case yn16 => (intro w' hSw; (try dsimp only at hSw); go_simp); (try with_reducible rfl)
              try simp only [Act.put, List.setIfInBounds_toArray, List.set_cons_zero, List.set_cons_succ]
              refine wpAnyH_take (i := 12) (v := ?vn17) rfl (by kernel_rfl) (by kernel_rfl) (by kernel_rfl) (fun _ _ _ h => h) (Or.inl ⟨by rfl, ?yn17⟩) hHeld ?_
              case yn17 => (intro w' hSw; (try dsimp only at hSw); go_simp); (try with_reducible rfl)
              try simp only [Act.put, List.setIfInBounds_toArray, List.set_cons_zero, List.set_cons_succ]
              clear hmd hu hi hm
              refine wpAnyH_ready (rs := [6,13]) (by kernel_rfl) (by simp) ?_
              refine AllReadyH.cons rfl (fun Kc hKc => ?_) (AllReadyH.cons rfl (fun Kc hKc => ?_) AllReadyH.nil)
              · skip
                obtain ⟨wl25, hwwl25, hBwl25, hzwl25, qx27⟩ := hAl.out wa23
                have P26 := P24.under hBwl25
                go_simp
                refine hKc.out _ _ trivial (fun hHeld => ?_)
                clear hKc Kc
                try simp only [Act.put, List.setIfInBounds_toArray, List.set_cons_zero, List.set_cons_succ]
                have hlxwl25 := P24.lt
                refine wpAnyH_ready (rs := [7,13]) (by kernel_rfl) (by simp) ?_
                refine AllReadyH.cons rfl (fun Kc hKc => ?_) (AllReadyH.cons rfl (fun Kc hKc => ?_) AllReadyH.nil)
                · skip
                  have hc := hcv.out wl25 wa23.heap.size 1 qx27
                  go_simp
                  refine hKc.out _ _ trivial (fun hHeld => ?_)
                  clear hKc Kc
                  try simp only [Act.put, List.setIfInBounds_toArray, List.set_cons_zero, List.set_cons_succ]
                  clear hc
                  refine wpAnyH_take (i := 8) (v := ?vn18) rfl (by kernel_rfl) (by kernel_rfl) (by kernel_rfl) (fun _ _ _ h => h) (Or.inl ⟨by rfl, ?yn18⟩) hHeld ?_
                  case yn18 => (intro w' hSw; (try dsimp only at hSw); go_simp; rw [if_neg (by omega)]); (try with_reducible rfl)
                  try simp only [Act.put, List.setIfInBounds_toArray, List.set_cons_zero, List.set_cons_succ]
                  try simp only [Act.put, List.getElem_toArray, List.getElem_cons_succ, List.getElem_cons_zero, List.setIfInBounds_toArray, List.set_cons_zero, List.set_cons_succ]
                  refine wpAnyH_ready (rs := [13]) (by kernel_rfl) (by simp) ?_
                  refine AllReadyH.cons rfl (fun Kc hKc => ?_) AllReadyH.nil
                  have CR := repS_any rb wl25 (by omega)
                  go_simp
                  go_at_call 15
                  refine CR.mono ?_
                  rintro e wb28 ⟨⟨LB, rfl, hLB, hnLB⟩, hBwb28⟩
                  clear CR
                  replace hLB := hid hLB
                  have P29 := P26.under hBwb28
                  go_wp2_with fail
                  refine hKc.out _ _ trivial (fun hHeld => ?_)
                  clear hKc Kc
                  try simp only [Act.put, List.setIfInBounds_toArray, List.set_cons_zero, List.set_cons_succ]
                  refine wpAnyH_take (i := 14) (v := ?vn19) rfl (by kernel_rfl) (by kernel_rfl) (by kernel_rfl) (fun _ _ _ h => h) (Or.inl ⟨by rfl, ?yn19⟩) hHeld ?_
                  case yn19 => (intro w' hSw; (try dsimp only at hSw); go_simp; rw [if_neg (by omega)]); (try with_reducible rfl)
                  try simp only [Act.put, List.setIfInBounds_toArray, List.set_cons_zero, List.set_cons_succ]
                  try simp only [Act.put, List.getElem_toArray, List.getElem_cons_succ, List.getElem_cons_zero, List.setIfInBounds_toArray, List.set_cons_zero, List.set_cons_succ]
                  refine wpAnyH_ready (rs := [15]) (by kernel_rfl) (by simp) ?_
                  refine AllReadyH.cons rfl (fun Kc hKc => ?_) AllReadyH.nil
                  have CW := P29.write (by omega) (by omega) (by omega) (LA ++ [cc] ++ LB) (by simp only [List.length_append, List.length_cons, List.length_nil]; omega)
                  rw [← ba_app, ← ba_app] at CW
                  go_simp
                  go_at_call 14
                  refine CW.mono ?_
                  rintro e wz30 ⟨rfl, PZ⟩
                  go_wp2_with fail
                  refine hKc.out _ _ trivial (fun hHeld => ?_)
                  clear hKc Kc
                  try simp only [Act.put, List.setIfInBounds_toArray, List.set_cons_zero, List.set_cons_succ]
                  refine wpAnyH_done (by kernel_rfl) ?_ _
                  go_wp2_with fail
                  go_roundg (s.length - (j + 1))
                  case measure => omega
                  case rel => exact ⟨j + 1, i + 1 + 1, t ++ (LA ++ [cc] ++ LB), by omega, by omega, by go_num, by omega, by simp only [List.length_append, List.length_cons, List.length_nil]; omega, by simp only [List.length_append, List.length_cons, List.length_nil]; omega, PZ, RELT.out LA LB ra rb hLA.out hLB.out, hid (fun e => absurd e (by omega))⟩
                · skip
                  have CR := repS_any rb wl25 (by omega)
                  go_simp
                  go_at_call 15
                  refine CR.mono ?_
                  rintro e wb31 ⟨⟨LB, rfl, hLB, hnLB⟩, hBwb31⟩
                  clear CR
                  replace hLB := hid hLB
                  have P32 := P26.under hBwb31
                  have qx33 := row_below qx27 hBwb31
                  go_wp2_with fail
                  refine hKc.out _ _ trivial (fun hHeld => ?_)
                  clear hKc Kc
                  try simp only [Act.put, List.setIfInBounds_toArray, List.set_cons_zero, List.set_cons_succ]
                  refine wpAnyH_ready (rs := [7]) (by kernel_rfl) (by simp) ?_
                  refine AllReadyH.cons rfl (fun Kc hKc => ?_) AllReadyH.nil
                  have hc := hcv.out wb31 wa23.heap.size 1 qx33
                  go_simp
                  refine hKc.out _ _ trivial (fun hHeld => ?_)
                  clear hKc Kc
                  try simp only [Act.put, List.setIfInBounds_toArray, List.set_cons_zero, List.set_cons_succ]
                  clear hc
                  refine wpAnyH_take (i := 8) (v := ?vn20) rfl (by kernel_rfl) (by kernel_rfl) (by kernel_rfl) (fun _ _ _ h => h) (Or.inl ⟨by rfl, ?yn20⟩) hHeld ?_
                  case yn20 => (intro w' hSw; (try dsimp only at hSw); go_simp; rw [if_neg (by omega)]); (try with_reducible rfl)
                  try simp only [Act.put, List.setIfInBounds_toArray, List.set_cons_zero, List.set_cons_succ]
                  try simp only [Act.put, List.getElem_toArray, List.getElem_cons_succ, List.getElem_cons_zero, List.setIfInBounds_toArray, List.set_cons_zero, List.set_cons_succ]
                  refine wpAnyH_take (i := 14) (v := ?vn21) rfl (by kernel_rfl) (by kernel_rfl) (by kernel_rfl) (fun _ _ _ h => h) (Or.inl ⟨by rfl, ?yn21⟩) hHeld ?_
                  case yn21 => (intro w' hSw; (try dsimp only at hSw); go_simp; rw [if_neg (by omega)]); (try with_reducible rfl)
                  try simp only [Act.put, List.setIfInBounds_toArray, List.set_cons_zero, List.set_cons_succ]
                  try simp only [Act.put, List.getElem_toArray, List.getElem_cons_succ, List.getElem_cons_zero, List.setIfInBounds_toArray, List.set_cons_zero, List.set_cons_succ]
                  refine wpAnyH_ready (rs := [15]) (by kernel_rfl) (by simp) ?_
                  refine AllReadyH.cons rfl (fun Kc hKc => ?_) AllReadyH.nil
                  have CW := P32.write (by omega) (by omega) (by omega) (LA ++ [cc] ++ LB) (by simp only [List.length_append, List.length_cons, List.length_nil]; omega)
                  rw [← ba_app, ← ba_app] at CW
                  go_simp
                  go_at_call 14
                  refine CW.mono ?_
                  rintro e wz34 ⟨rfl, PZ⟩
                  go_wp2_with fail
                  refine hKc.out _ _ trivial (fun hHeld => ?_)
                  clear hKc Kc
                  try simp only [Act.put, List.setIfInBounds_toArray, List.set_cons_zero, List.set_cons_succ]
                  refine wpAnyH_done (by kernel_rfl) ?_ _
                  go_wp2_with fail
                  go_roundg (s.length - (j + 1))
                  case measure => omega
                  case rel => exact ⟨j + 1, i + 1 + 1, t ++ (LA ++ [cc] ++ LB), by omega, by omega, by go_num, by omega, by simp only [List.length_append, List.length_cons, List.length_nil]; omega, by simp only [List.length_append, List.length_cons, List.length_nil]; omega, PZ, RELT.out LA LB ra rb hLA.out hLB.out, hid (fun e => absurd e (by omega))⟩
              · skip
                have CR := repS_any rb wa23 (by omega)
                go_simp
                go_at_call 15
                refine CR.mono ?_
                rintro e wb35 ⟨⟨LB, rfl, hLB, hnLB⟩, hBwb35⟩
                clear CR
                replace hLB := hid hLB
                have P36 := P24.under hBwb35
                go_wp2_with fail
                refine hKc.out _ _ trivial (fun hHeld => ?_)
                clear hKc Kc
                try simp only [Act.put, List.setIfInBounds_toArray, List.set_cons_zero, List.set_cons_succ]
                refine wpAnyH_ready (rs := [6]) (by kernel_rfl) (by simp) ?_
                refine AllReadyH.cons rfl (fun Kc hKc => ?_) AllReadyH.nil
                obtain ⟨wl37, hwwl37, hBwl37, hzwl37, qx39⟩ := hAl.out wb35
                have P38 := P36.under hBwl37
                go_simp
                refine hKc.out _ _ trivial (fun hHeld => ?_)
                clear hKc Kc
                try simp only [Act.put, List.setIfInBounds_toArray, List.set_cons_zero, List.set_cons_succ]
                have hlxwl37 := P36.lt
                refine wpAnyH_ready (rs := [7]) (by kernel_rfl) (by simp) ?_
                refine AllReadyH.cons rfl (fun Kc hKc => ?_) AllReadyH.nil
                have hc := hcv.out wl37 wb35.heap.size 1 qx39
                go_simp
                refine hKc.out _ _ trivial (fun hHeld => ?_)
                clear hKc Kc
                try simp only [Act.put, List.setIfInBounds_toArray, List.set_cons_zero, List.set_cons_succ]
                clear hc
                refine wpAnyH_take (i := 8) (v := ?vn22) rfl (by kernel_rfl) (by kernel_rfl) (by kernel_rfl) (fun _ _ _ h => h) (Or.inl ⟨by rfl, ?yn22⟩) hHeld ?_
                case yn22 => (intro w' hSw; (try dsimp only at hSw); go_simp; rw [if_neg (by omega)]); (try with_reducible rfl)
                try simp only [Act.put, List.setIfInBounds_toArray, List.set_cons_zero, List.set_cons_succ]
                try simp only [Act.put, List.getElem_toArray, List.getElem_cons_succ, List.getElem_cons_zero, List.setIfInBounds_toArray, List.set_cons_zero, List.set_cons_succ]
                refine wpAnyH_take (i := 14) (v := ?vn23) rfl (by kernel_rfl) (by kernel_rfl) (by kernel_rfl) (fun _ _ _ h => h) (Or.inl ⟨by rfl, ?yn23⟩) hHeld ?_
                case yn23 => (intro w' hSw; (try dsimp only at hSw); go_simp; rw [if_neg (by omega)]); (try with_reducible rfl)
                try simp only [Act.put, List.setIfInBounds_toArray, List.set_cons_zero, List.set_cons_succ]
                try simp only [Act.put, List.getElem_toArray, List.getElem_cons_succ, List.getElem_cons_zero, List.setIfInBounds_toArray, List.set_cons_zero, List.set_cons_succ]
                refine wpAnyH_ready (rs := [15]) (by kernel_rfl) (by simp) ?_
                refine AllReadyH.cons rfl (fun Kc hKc => ?_) AllReadyH.nil
                have CW := P38.write (by omega) (by omega) (by omega) (LA ++ [cc] ++ LB) (by simp only [List.length_append, List.length_cons, List.length_nil]; omega)
                rw [← ba_app, ← ba_app] at CW
                go_simp
                go_at_call 14
                refine CW.mono ?_
                rintro e wz40 ⟨rfl, PZ⟩
                go_wp2_with fail
                refine hKc.out _ _ trivial (fun hHeld => ?_)
                clear hKc Kc
                try simp only [Act.put, List.setIfInBounds_toArray, List.set_cons_zero, List.set_cons_succ]
                refine wpAnyH_done (by kernel_rfl) ?_ _
                go_wp2_with fail
                go_roundg (s.length - (j + 1))
                case measure => omega
                case rel => exact ⟨j + 1, i + 1 + 1, t ++ (LA ++ [cc] ++ LB), by omega, by omega, by go_num, by omega, by simp only [List.length_append, List.length_cons, List.length_nil]; omega, by simp only [List.length_append, List.length_cons, List.length_nil]; omega, PZ, RELT.out LA LB ra rb hLA.out hLB.out, hid (fun e => absurd e (by omega))⟩
          · skip
            obtain ⟨wl41, hwwl41, hBwl41, hzwl41, qx43⟩ := hAl.out wa1
            have P42 := P2.under hBwl41
            go_simp
            refine hKc.out _ _ trivial (fun hHeld => ?_)
            clear hKc Kc
            try simp only [Act.put, List.setIfInBounds_toArray, List.set_cons_zero, List.set_cons_succ]
            have hlxwl41 := P2.lt
            refine wpAnyH_ready (rs := [4,7]) (by kernel_rfl) (by simp) ?_
            refine AllReadyH.cons rfl (fun Kc hKc => ?_) (AllReadyH.cons rfl (fun Kc hKc => ?_) AllReadyH.nil)
            · skip
              have CR := repS_any ra wl41 (by omega)
              go_simp
              go_at_call 15
              refine CR.mono ?_
              rintro e wb44 ⟨⟨LA, rfl, hLA, hnLA⟩, hBwb44⟩
              clear CR
              replace hLA := hid hLA
              have P45 := P42.under hBwb44
              have qx46 := row_below qx43 hBwb44
              go_wp2_with fail
              refine hKc.out _ _ trivial (fun hHeld => ?_)
              clear hKc Kc
              try simp only [Act.put, List.setIfInBounds_toArray, List.set_cons_zero, List.set_cons_succ]
              refine wpAnyH_ready (rs := [7,10]) (by kernel_rfl) (by simp) ?_
              refine AllReadyH.cons rfl (fun Kc hKc => ?_) (AllReadyH.cons rfl (fun Kc hKc => ?_) AllReadyH.nil)
              · skip
                have hc := hcv.out wb44 wa1.heap.size 1 qx46
                go_simp
                refine hKc.out _ _ trivial (fun hHeld => ?_)
                clear hKc Kc
                try simp only [Act.put, List.setIfInBounds_toArray, List.set_cons_zero, List.set_cons_succ]
                clear hc
                refine wpAnyH_take (i := 8) (v := ?vn24) rfl (by kernel_rfl) (by kernel_rfl) (by kernel_rfl) (fun _ _ _ h => h) (Or.inl ⟨by rfl, ?yn24⟩) hHeld ?_
                case yn24 => (intro w' hSw; (try dsimp only at hSw); go_simp; rw [if_neg (by omega)]); (try with_reducible rfl)
                try simp only [Act.put, List.setIfInBounds_toArray, List.set_cons_zero, List.set_cons_succ]
                try simp only [Act.put, List.getElem_toArray, List.getElem_cons_succ, List.getElem_cons_zero, List.setIfInBounds_toArray, List.set_cons_zero, List.set_cons_succ]
                refine wpAnyH_ready (rs := [10]) (by kernel_rfl) (by simp) ?_
                refine AllReadyH.cons rfl (fun Kc hKc => ?_) AllReadyH.nil
                have CN := P45.next (by omega) (by omega) (by omega) hat hpos hle (by omega)
                go_simp
                refine CN.mono ?_
                rintro e wa47 ⟨⟨m, hm, rfl⟩, P48, hKwa47⟩
                clear CN
                have hmd : (m : Int).tmod 2 = ((m % 2 : Nat) : Int) := mod_two
                have hq : m % 2 < 2 := Nat.mod_lt _ (by decide)
                generalize m % 2 = rb at hmd hq
                have hu : IntKind.u8.wrap (rb : Int) = (rb : Int) := IntWalk.u8_in _ (by omega)
                have hi : IntKind.i64.wrap (rb : Int) = (rb : Int) := IntWalk.i64_in _ (by omega)
                go_wp2_with fail
                refine hKc.out _ _ trivial (fun hHeld => ?_)
                clear hKc Kc
                try simp only [Act.put, List.setIfInBounds_toArray, List.set_cons_zero, List.set_cons_succ]
                refine wpAnyH_take (i := 11) (v := ?vn25) rfl (by kernel_rfl) (by kernel_rfl) (by kernel_rfl) (fun _ _ _ h => h) (Or.inl ⟨by rfl, ?yn25⟩) hHeld ?_
                case yn25 => (intro w' hSw; (try dsimp only at hSw); go_simp); (try with_reducible rfl)
                try simp only [Act.put, List.setIfInBounds_toArray, List.set_cons_zero, List.set_cons_succ]
                refine wpAnyH_take (i := 12) (v := ?vn26) rfl (by kernel_rfl) (by kernel_rfl) (by kernel_rfl) (fun _ _ _ h => h) (Or.inl ⟨by rfl, ?yn26⟩) hHeld ?_
                case yn26 => (intro w' hSw; (try dsimp only at hSw); go_simp); (try with_reducible rfl)
                try simp only [Act.put, List.setIfInBounds_toArray, List.set_cons_zero, List.set_cons_succ]
                clear hmd hu hi hm
                refine wpAnyH_ready (rs := [13]) (by kernel_rfl) (by simp) ?_
                refine AllReadyH.cons rfl (fun Kc hKc => ?_) AllReadyH.nil
                have CR := repS_any rb wa47 (by omega)
                go_simp
                go_at_call 15
                refine CR.mono ?_
                rintro e wb49 ⟨⟨LB, rfl, hLB, hnLB⟩, hBwb49⟩
                clear CR
                replace hLB := hid hLB
                have P50 := P48.under hBwb49
                go_wp2_with fail
                refine hKc.out _ _ trivial (fun hHeld => ?_)
                clear hKc Kc
                try simp only [Act.put, List.setIfInBounds_toArray, List.set_cons_zero, List.set_cons_succ]
                refine wpAnyH_take (i := 14) (v := ?vn27) rfl (by kernel_rfl) (by kernel_rfl) (by kernel_rfl) (fun _ _ _ h => h) (Or.inl ⟨by rfl, ?yn27⟩) hHeld ?_
                case yn27 => (intro w' hSw; (try dsimp only at hSw); go_simp; rw [if_neg (by omega)]); (try with_reducible rfl)
                try simp only [Act.put, List.setIfInBounds_toArray, List.set_cons_zero, List.set_cons_succ]
                try simp only [Act.put, List.getElem_toArray, List.getElem_cons_succ, List.getElem_cons_zero, List.setIfInBounds_toArray, List.set_cons_zero, List.set_cons_succ]
                refine wpAnyH_ready (rs := [15]) (by kernel_rfl) (by simp) ?_
                refine AllReadyH.cons rfl (fun Kc hKc => ?_) AllReadyH.nil
                have CW := P50.write (by omega) (by omega) (by omega) (LA ++ [cc] ++ LB) (by simp only [List.length_append, List.length_cons, List.length_nil]; omega)
                rw [← ba_app, ← ba_app] at CW
                go_simp
                go_at_call 14
                refine CW.mono ?_
                rintro e wz51 ⟨rfl, PZ⟩
                go_wp2_with fail
                refine hKc.out _ _ trivial (fun hHeld => ?_)
                clear hKc Kc
                try simp only [Act.put, List.setIfInBounds_toArray, List.set_cons_zero, List.set_cons_succ]
                refine wpAnyH_done (by kernel_rfl) ?_ _
                go_wp2_with fail
                go_roundg (s.length - (j + 1))
                case measure => omega
                case rel => exact ⟨j + 1, i + 1 + 1, t ++ (LA ++ [cc] ++ LB), by omega, by omega, by go_num, by omega, by simp only [List.length_append, List.length_cons, List.length_nil]; omega, by simp only [List.length_append, List.length_cons, List.length_nil]; omega, PZ, RELT.out LA LB ra rb hLA.out hLB.out, hid (fun e => absurd e (by omega))⟩
              · skip
                have CN := P45.next (by omega) (by omega) (by omega) hat hpos hle (by omega)
                go_simp
                refine CN.mono ?_
                rintro e wa52 ⟨⟨m, hm, rfl⟩, P53, hKwa52⟩
                clear CN
                have hmd : (m : Int).tmod 2 = ((m % 2 : Nat) : Int) := mod_two
                have hq : m % 2 < 2 := Nat.mod_lt _ (by decide)
                generalize m % 2 = rb at hmd hq
                have hu : IntKind.u8.wrap (rb : Int) = (rb : Int) := IntWalk.u8_in _ (by omega)
                have hi : IntKind.i64.wrap (rb : Int) = (rb : Int) := IntWalk.i64_in _ (by omega)
                have qx54 := hKwa52 _ _ (by have := P45.lt; omega) qx46
                go_wp2_with fail
                refine hKc.out _ _ trivial (fun hHeld => ?_)
                clear hKc Kc
                try simp only [Act.put, List.setIfInBounds_toArray, List.set_cons_zero, List.set_cons_succ]
                refine wpAnyH_take (i := 11) (v := ?vn28) rfl (by kernel_rfl) (by kernel_rfl) (by kernel_rfl) (fun _ _ _ h => h) (Or.inl ⟨by rfl, ?yn28⟩) hHeld ?_
                case yn28 => (intro w' hSw; (try dsimp only at hSw); go_simp); (try with_reducible rfl)
                try simp only [Act.put, List.setIfInBounds_toArray, List.set_cons_zero, List.set_cons_succ]
                refine wpAnyH_take (i := 12) (v := ?vn29) rfl (by kernel_rfl) (by kernel_rfl) (by kernel_rfl) (fun _ _ _ h => h) (Or.inl ⟨by rfl, ?yn29⟩) hHeld ?_
                case yn29 => (intro w' hSw; (try dsimp only at hSw); go_simp); (try with_reducible rfl)
                try simp only [Act.put, List.setIfInBounds_toArray, List.set_cons_zero, List.set_cons_succ]
                clear hmd hu hi hm
                refine wpAnyH_ready (rs := [7,13]) (by kernel_rfl) (by simp) ?_
                refine AllReadyH.cons rfl (fun Kc hKc => ?_) (AllReadyH.cons rfl (fun Kc hKc => ?_) AllReadyH.nil)
                · skip
                  have hc := hcv.out wa52 wa1.heap.size 1 qx54
                  go_simp
                  refine hKc.out _ _ trivial (fun hHeld => ?_)
                  clear hKc Kc
                  try simp only [Act.put, List.setIfInBounds_toArray, List.set_cons_zero, List.set_cons_succ]
                  clear hc
                  refine wpAnyH_take (i := 8) (v := ?vn30) rfl (by kernel_rfl) (by kernel_rfl) (by kernel_rfl) (fun _ _ _ h => h) (Or.inl ⟨by rfl, ?yn30⟩) hHeld ?_
                  case yn30 => (intro w' hSw; (try dsimp only at hSw); go_simp; rw [if_neg (by omega)]); (try with_reducible rfl)
                  try simp only [Act.put, List.setIfInBounds_toArray, List.set_cons_zero, List.set_cons_succ]
                  try simp only [Act.put, List.getElem_toArray, List.getElem_cons_succ, List.getElem_cons_zero, List.setIfInBounds_toArray, List.set_cons_zero, List.set_cons_succ]
                  refine wpAnyH_ready (rs := [13]) (by kernel_rfl) (by simp) ?_
                  refine AllReadyH.cons rfl (fun Kc hKc => ?_) AllReadyH.nil
                  have CR := repS_any rb wa52 (by omega)
                  go_simp
                  go_at_call 15
                  refine CR.mono ?_
                  rintro e wb55 ⟨⟨LB, rfl, hLB, hnLB⟩, hBwb55⟩
                  clear CR
                  replace hLB := hid hLB
                  have P56 := P53.under hBwb55
                  go_wp2_with fail
                  refine hKc.out _ _ trivial (fun hHeld => ?_)
                  clear hKc Kc
                  try simp only [Act.put, List.setIfInBounds_toArray, List.set_cons_zero, List.set_cons_succ]
                  refine wpAnyH_take (i := 14) (v := ?vn31) rfl (by kernel_rfl) (by kernel_rfl) (by kernel_rfl) (fun _ _ _ h => h) (Or.inl ⟨by rfl, ?yn31⟩) hHeld ?_
                  case yn31 => (intro w' hSw; (try dsimp only at hSw); go_simp; rw [if_neg (by omega)]); (try with_reducible rfl)
                  try simp only [Act.put, List.setIfInBounds_toArray, List.set_cons_zero, List.set_cons_succ]
                  try simp only [Act.put, List.getElem_toArray, List.getElem_cons_succ, List.getElem_cons_zero, List.setIfInBounds_toArray, List.set_cons_zero, List.set_cons_succ]
                  refine wpAnyH_ready (rs := [15]) (by kernel_rfl) (by simp) ?_
                  refine AllReadyH.cons rfl (fun Kc hKc => ?_) AllReadyH.nil
                  have CW := P56.write (by omega) (by omega) (by omega) (LA ++ [cc] ++ LB) (by simp only [List.length_append, List.length_cons, List.length_nil]; omega)
                  rw [← ba_app, ← ba_app] at CW
                  go_simp
                  go_at_call 14
                  refine CW.mono ?_
                  rintro e wz57 ⟨rfl, PZ⟩
                  go_wp2_with fail
                  refine hKc.out _ _ trivial (fun hHeld => ?_)
                  clear hKc Kc
                  try simp only [Act.put, List.setIfInBounds_toArray, List.set_cons_zero, List.set_cons_succ]
                  refine wpAnyH_done (by kernel_rfl) ?_ _
                  go_wp2_with fail
                  go_roundg (s.length - (j + 1))
                  case measure => omega
                  case rel => exact ⟨j + 1, i + 1 + 1, t ++ (LA ++ [cc] ++ LB), by omega, by omega, by go_num, by omega, by simp only [List.length_append, List.length_cons, List.length_nil]; omega, by simp only [List.length_append, List.length_cons, List.length_nil]; omega, PZ, RELT.out LA LB ra rb hLA.out hLB.out, hid (fun e => absurd e (by omega))⟩
                · skip
                  have CR := repS_any rb wa52 (by omega)
                  go_simp
                  go_at_call 15
                  refine CR.mono ?_
                  rintro e wb58 ⟨⟨LB, rfl, hLB, hnLB⟩, hBwb58⟩
                  clear CR
                  replace hLB := hid hLB
                  have P59 := P53.under hBwb58
                  have qx60 := row_below qx54 hBwb58
                  go_wp2_with fail
                  refine hKc.out _ _ trivial (fun hHeld => ?_)
                  clear hKc Kc
                  try simp only [Act.put, List.setIfInBounds_toArray, List.set_cons_zero, List.set_cons_succ]
                  refine wpAnyH_ready (rs := [7]) (by kernel_rfl) (by simp) ?_
                  refine AllReadyH.cons rfl (fun Kc hKc => ?_) AllReadyH.nil
                  have hc := hcv.out wb58 wa1.heap.size 1 qx60
                  go_simp
                  refine hKc.out _ _ trivial (fun hHeld => ?_)
                  clear hKc Kc
                  try simp only [Act.put, List.setIfInBounds_toArray, List.set_cons_zero, List.set_cons_succ]
                  clear hc
                  refine wpAnyH_take (i := 8) (v := ?vn32) rfl (by kernel_rfl) (by kernel_rfl) (by kernel_rfl) (fun _ _ _ h => h) (Or.inl ⟨by rfl, ?yn32⟩) hHeld ?_
                  case yn32 => (intro w' hSw; (try dsimp only at hSw); go_simp; rw [if_neg (by omega)]); (try with_reducible rfl)
                  try simp only [Act.put, List.setIfInBounds_toArray, List.set_cons_zero, List.set_cons_succ]
                  try simp only [Act.put, List.getElem_toArray, List.getElem_cons_succ, List.getElem_cons_zero, List.setIfInBounds_toArray, List.set_cons_zero, List.set_cons_succ]
                  refine wpAnyH_take (i := 14) (v := ?vn33) rfl (by kernel_rfl) (by kernel_rfl) (by kernel_rfl) (fun _ _ _ h => h) (Or.inl ⟨by rfl, ?yn33⟩) hHeld ?_
                  case yn33 => (intro w' hSw; (try dsimp only at hSw); go_simp; rw [if_neg (by omega)]); (try with_reducible rfl)
                  try simp only [Act.put, List.setIfInBounds_toArray, List.set_cons_zero, List.set_cons_succ]
                  try simp only [Act.put, List.getElem_toArray, List.getElem_cons_succ, List.getElem_cons_zero, List.setIfInBounds_toArray, List.set_cons_zero, List.set_cons_succ]
                  refine wpAnyH_ready (rs := [15]) (by kernel_rfl) (by simp) ?_
                  refine AllReadyH.cons rfl (fun Kc hKc => ?_) AllReadyH.nil
                  have CW := P59.write (by omega) (by omega) (by omega) (LA ++ [cc] ++ LB) (by simp only [List.length_append, List.length_cons, List.length_nil]; omega)
                  rw [← ba_app, ← ba_app] at CW
                  go_simp
                  go_at_call 14
                  refine CW.mono ?_
                  rintro e wz61 ⟨rfl, PZ⟩
                  go_wp2_with fail
                  refine hKc.out _ _ trivial (fun hHeld => ?_)
                  clear hKc Kc
                  try simp only [Act.put, List.setIfInBounds_toArray, List.set_cons_zero, List.set_cons_succ]
                  refine wpAnyH_done (by kernel_rfl) ?_ _
                  go_wp2_with fail
                  go_roundg (s.length - (j + 1))
                  case measure => omega
                  case rel => exact ⟨j + 1, i + 1 + 1, t ++ (LA ++ [cc] ++ LB), by omega, by omega, by go_num, by omega, by simp only [List.length_append, List.length_cons, List.length_nil]; omega, by simp only [List.length_append, List.length_cons, List.length_nil]; omega, PZ, RELT.out LA LB ra rb hLA.out hLB.out, hid (fun e => absurd e (by omega))⟩
            · skip
              have hc := hcv.out wl41 wa1.heap.size 1 qx43
              go_simp
              refine hKc.out _ _ trivial (fun hHeld => ?_)
              clear hKc Kc
              try simp only [Act.put, List.setIfInBounds_toArray, List.set_cons_zero, List.set_cons_succ]
              clear hc
              refine wpAnyH_ready (rs := [4]) (by kernel_rfl) (by simp) ?_
              refine AllReadyH.cons rfl (fun Kc hKc => ?_) AllReadyH.nil
              have CR := repS_any ra wl41 (by omega)
              go_simp
              go_at_call 15
              refine CR.mono ?_
              rintro e wb62 ⟨⟨LA, rfl, hLA, hnLA⟩, hBwb62⟩
              clear CR
              replace hLA := hid hLA
              have P63 := P42.under hBwb62
              go_wp2_with fail
              refine hKc.out _ _ trivial (fun hHeld => ?_)
              clear hKc Kc
              try simp only [Act.put, List.setIfInBounds_toArray, List.set_cons_zero, List.set_cons_succ]
              refine wpAnyH_take (i := 8) (v := ?vn34) rfl (by kernel_rfl) (by kernel_rfl) (by kernel_rfl) (fun _ _ _ h => h) (Or.inl ⟨by rfl, ?yn34⟩) hHeld ?_
              case yn34 => (intro w' hSw; (try dsimp only at hSw); go_simp; rw [if_neg (by omega)]); (try with_reducible rfl)
              try simp only [Act.put, List.setIfInBounds_toArray, List.set_cons_zero, List.set_cons_succ]
              try simp only [Act.put, List.getElem_toArray, List.getElem_cons_succ, List.getElem_cons_zero, List.setIfInBounds_toArray, List.set_cons_zero, List.set_cons_succ]
              refine wpAnyH_ready (rs := [10]) (by kernel_rfl) (by simp) ?_
              refine AllReadyH.cons rfl (fun Kc hKc => ?_) AllReadyH.nil
              have CN := P63.next (by omega) (by omega) (by omega) hat hpos hle (by omega)
              go_simp
              refine CN.mono ?_
              rintro e wa64 ⟨⟨m, hm, rfl⟩, P65, hKwa64⟩
              clear CN
              have hmd : (m : Int).tmod 2 = ((m % 2 : Nat) : Int) := mod_two
              have hq : m % 2 < 2 := Nat.mod_lt _ (by decide)
              generalize m % 2 = rb at hmd hq
              have hu : IntKind.u8.wrap (rb : Int) = (rb : Int) := IntWalk.u8_in _ (by omega)
              have hi : IntKind.i64.wrap (rb : Int) = (rb : Int) := IntWalk.i64_in _ (by omega)
              go_wp2_with fail
              refine hKc.out _ _ trivial (fun hHeld => ?_)
              clear hKc Kc
              try simp only [Act.put, List.setIfInBounds_toArray, List.set_cons_zero, List.set_cons_succ]
              refine wpAnyH_take (i := 11) (v := ?vn35) rfl (by kernel_rfl) (by kernel_rfl) (by kernel_rfl) (fun _ _ _ h => h) (Or.inl ⟨by rfl, ?yn35⟩) hHeld ?_
              case yn35 => (intro w' hSw; (try dsimp only at hSw); go_simp); (try with_reducible rfl)
              try simp only [Act.put, List.setIfInBounds_toArray, List.set_cons_zero, List.set_cons_succ]
              refine wpAnyH_take (i := 12) (v := ?vn36) rfl (by kernel_rfl) (by kernel_rfl) (by kernel_rfl) (fun _ _ _ h => h) (Or.inl ⟨by rfl, ?yn36⟩) hHeld ?_
              case yn36 => (intro w' hSw; (try dsimp only at hSw); go_simp); (try with_reducible rfl)
              try simp only [Act.put, List.setIfInBounds_toArray, List.set_cons_zero, List.set_cons_succ]
              clear hmd hu hi hm
              refine wpAnyH_ready (rs := [13]) (by kernel_rfl) (by simp) ?_
              refine AllReadyH.cons rfl (fun Kc hKc => ?_) AllReadyH.nil
              have CR := repS_any rb wa64 (by omega)
              go_simp
              go_at_call 15
              refine CR.mono ?_
              rintro e wb66 ⟨⟨LB, rfl, hLB, hnLB⟩, hBwb66⟩
              clear CR
              replace hLB := hid hLB
              have P67 := P65.under hBwb66
              go_wp2_with fail
              refine hKc.out _ _ trivial (fun hHeld => ?_)
              clear hKc Kc
              try simp only [Act.put, List.setIfInBounds_toArray, List.set_cons_zero, List.set_cons_succ]
              refine wpAnyH_take (i := 14) (v := ?vn37) rfl (by kernel_rfl) (by kernel_rfl) (by kernel_rfl) (fun _ _ _ h => h) (Or.inl ⟨by rfl, ?yn37⟩) hHeld ?_
              case yn37 => (intro w' hSw; (try dsimp only at hSw); go_simp; rw [if_neg (by omega)]); (try with_reducible rfl)
              try simp only [Act.put, List.setIfInBounds_toArray, List.set_cons_zero, List.set_cons_succ]
              try simp only [Act.put, List.getElem_toArray, List.getElem_cons_succ, List.getElem_cons_zero, List.setIfInBounds_toArray, List.set_cons_zero, List.set_cons_succ]
              refine wpAnyH_ready (rs := [15]) (by kernel_rfl) (by simp) ?_
              refine AllReadyH.cons rfl (fun Kc hKc => ?_) AllReadyH.nil
              have CW := P67.write (by omega) (by omega) (by omega) (LA ++ [cc] ++ LB) (by simp only [List.length_append, List.length_cons, List.length_nil]; omega)
              rw [← ba_app, ← ba_app] at CW
              go_simp
              go_at_call 14
              refine CW.mono ?_
              rintro e wz68 ⟨rfl, PZ⟩
              go_wp2_with fail
              refine hKc.out _ _ trivial (fun hHeld => ?_)
              clear hKc Kc
              try simp only [Act.put, List.setIfInBounds_toArray, List.set_cons_zero, List.set_cons_succ]
              refine wpAnyH_done (by kernel_rfl) ?_ _
              go_wp2_with fail
              go_roundg (s.length - (j + 1))
              case measure => omega
              case rel => exact ⟨j + 1, i + 1 + 1, t ++ (LA ++ [cc] ++ LB), by omega, by omega, by go_num, by omega, by simp only [List.length_append, List.length_cons, List.length_nil]; omega, by simp only [List.length_append, List.length_cons, List.length_nil]; omega, PZ, RELT.out LA LB ra rb hLA.out hLB.out, hid (fun e => absurd e (by omega))⟩
        · skip
          obtain ⟨wl69, hwwl69, hBwl69, hzwl69, qx71⟩ := hAl.out Wd
          have P70 := PD.under hBwl69
          go_simp
          refine hKc.out _ _ trivial (fun hHeld => ?_)
          clear hKc Kc
          try simp only [Act.put, List.setIfInBounds_toArray, List.set_cons_zero, List.set_cons_succ]
          have hlxwl69 := PD.lt
          refine wpAnyH_ready (rs := [1,7]) (by kernel_rfl) (by simp) ?_
          refine AllReadyH.cons rfl (fun Kc hKc => ?_) (AllReadyH.cons rfl (fun Kc hKc => ?_) AllReadyH.nil)
          · skip
            have CN := P70.next (by omega) (by omega) (by omega) hat hpos hle (by omega)
            go_simp
            refine CN.mono ?_
            rintro e wa72 ⟨⟨m, hm, rfl⟩, P73, hKwa72⟩
            clear CN
            have hmd : (m : Int).tmod 3 = ((m % 3 : Nat) : Int) := mod_three
            have hq : m % 3 < 3 := Nat.mod_lt _ (by decide)
            generalize m % 3 = ra at hmd hq
            have hu : IntKind.u8.wrap (ra : Int) = (ra : Int) := IntWalk.u8_in _ (by omega)
            have hi : IntKind.i64.wrap (ra : Int) = (ra : Int) := IntWalk.i64_in _ (by omega)
            have qx74 := hKwa72 _ _ (by have := P70.lt; omega) qx71
            go_wp2_with fail
            refine hKc.out _ _ trivial (fun hHeld => ?_)
            clear hKc Kc
            try simp only [Act.put, List.setIfInBounds_toArray, List.set_cons_zero, List.set_cons_succ]
            refine wpAnyH_take (i := 2) (v := ?vn38) rfl (by kernel_rfl) (by kernel_rfl) (by kernel_rfl) (fun _ _ _ h => h) (Or.inl ⟨by rfl, ?yn38⟩) hHeld ?_
            case yn38 => (intro w' hSw; (try dsimp only at hSw); go_simp); (try with_reducible rfl)
            try simp only [Act.put, List.setIfInBounds_toArray, List.set_cons_zero, List.set_cons_succ]
            refine wpAnyH_take (i := 3) (v := ?vn39) rfl (by kernel_rfl) (by kernel_rfl) (by kernel_rfl) (fun _ _ _ h => h) (Or.inl ⟨by rfl, ?yn39⟩) hHeld ?_
            case yn39 => (intro w' hSw; (try dsimp only at hSw); go_simp); (try with_reducible rfl)
            try simp only [Act.put, List.setIfInBounds_toArray, List.set_cons_zero, List.set_cons_succ]
            clear hmd hu hi hm
            refine wpAnyH_ready (rs := [4,7]) (by kernel_rfl) (by simp) ?_
            refine AllReadyH.cons rfl (fun Kc hKc => ?_) (AllReadyH.cons rfl (fun Kc hKc => ?_) AllReadyH.nil)
            · skip
              have CR := repS_any ra wa72 (by omega)
              go_simp
              go_at_call 15
              refine CR.mono ?_
              rintro e wb75 ⟨⟨LA, rfl, hLA, hnLA⟩, hBwb75⟩
              clear CR
              replace hLA := hid hLA
              have P76 := P73.under hBwb75
              have qx77 := row_below qx74 hBwb75
              go_wp2_with fail
              refine hKc.out _ _ trivial (fun hHeld => ?_)
              clear hKc Kc
              try simp only [Act.put, List.setIfInBounds_toArray, List.set_cons_zero, List.set_cons_succ]
              refine wpAnyH_ready (rs := [7,10]) (by kernel_rfl) (by simp) ?_
              refine AllReadyH.cons rfl (fun Kc hKc => ?_) (AllReadyH.cons rfl (fun Kc hKc => ?_) AllReadyH.nil)
              · skip
                have hc := hcv.out wb75 Wd.heap.size 1 qx77
                go_simp
                refine hKc.out _ _ trivial (fun hHeld => ?_)
                clear hKc Kc
                try simp only [Act.put, List.setIfInBounds_toArray, List.set_cons_zero, List.set_cons_succ]
                clear hc
                refine wpAnyH_take (i := 8) (v := ?vn40) rfl (by kernel_rfl) (by kernel_rfl) (by kernel_rfl) (fun _ _ _ h => h) (Or.inl ⟨by rfl, ?yn40⟩) hHeld ?_
                case yn40 => (intro w' hSw; (try dsimp only at hSw); go_simp; rw [if_neg (by omega)]); (try with_reducible rfl)
                try simp only [Act.put, List.setIfInBounds_toArray, List.set_cons_zero, List.set_cons_succ]
                try simp only [Act.put, List.getElem_toArray, List.getElem_cons_succ, List.getElem_cons_zero, List.setIfInBounds_toArray, List.set_cons_zero, List.set_cons_succ]
                refine wpAnyH_ready (rs := [10]) (by kernel_rfl) (by simp) ?_
                refine AllReadyH.cons rfl (fun Kc hKc => ?_) AllReadyH.nil
                have CN := P76.next (by omega) (by omega) (by omega) hat hpos hle (by omega)
                go_simp
                refine CN.mono ?_
                rintro e wa78 ⟨⟨m, hm, rfl⟩, P79, hKwa78⟩
                clear CN
                have hmd : (m : Int).tmod 2 = ((m % 2 : Nat) : Int) := mod_two
                have hq : m % 2 < 2 := Nat.mod_lt _ (by decide)
                generalize m % 2 = rb at hmd hq
                have hu : IntKind.u8.wrap (rb : Int) = (rb : Int) := IntWalk.u8_in _ (by omega)
                have hi : IntKind.i64.wrap (rb : Int) = (rb : Int) := IntWalk.i64_in _ (by omega)
                go_wp2_with fail
                refine hKc.out _ _ trivial (fun hHeld => ?_)
                clear hKc Kc
                try simp only [Act.put, List.setIfInBounds_toArray, List.set_cons_zero, List.set_cons_succ]
                refine wpAnyH_take (i := 11) (v := ?vn41) rfl (by kernel_rfl) (by kernel_rfl) (by kernel_rfl) (fun _ _ _ h => h) (Or.inl ⟨by rfl, ?yn41⟩) hHeld ?_
                case yn41 => (intro w' hSw; (try dsimp only at hSw); go_simp); (try with_reducible rfl)
                try simp only [Act.put, List.setIfInBounds_toArray, List.set_cons_zero, List.set_cons_succ]
                refine wpAnyH_take (i := 12) (v := ?vn42) rfl (by kernel_rfl) (by kernel_rfl) (by kernel_rfl) (fun _ _ _ h => h) (Or.inl ⟨by rfl, ?yn42⟩) hHeld ?_
                case yn42 => (intro w' hSw; (try dsimp only at hSw); go_simp); (try with_reducible rfl)
                try simp only [Act.put, List.setIfInBounds_toArray, List.set_cons_zero, List.set_cons_succ]
                clear hmd hu hi hm
                refine wpAnyH_ready (rs := [13]) (by kernel_rfl) (by simp) ?_
                refine AllReadyH.cons rfl (fun Kc hKc => ?_) AllReadyH.nil
                have CR := repS_any rb wa78 (by omega)
                go_simp
                go_at_call 15
                refine CR.mono ?_
                rintro e wb80 ⟨⟨LB, rfl, hLB, hnLB⟩, hBwb80⟩
                clear CR
                replace hLB := hid hLB
                have P81 := P79.under hBwb80
                go_wp2_with fail
                refine hKc.out _ _ trivial (fun hHeld => ?_)
                clear hKc Kc
                try simp only [Act.put, List.setIfInBounds_toArray, List.set_cons_zero, List.set_cons_succ]
                refine wpAnyH_take (i := 14) (v := ?vn43) rfl (by kernel_rfl) (by kernel_rfl) (by kernel_rfl) (fun _ _ _ h => h) (Or.inl ⟨by rfl, ?yn43⟩) hHeld ?_
                case yn43 => (intro w' hSw; (try dsimp only at hSw); go_simp; rw [if_neg (by omega)]); (try with_reducible rfl)
                try simp only [Act.put, List.setIfInBounds_toArray, List.set_cons_zero, List.set_cons_succ]
                try simp only [Act.put, List.getElem_toArray, List.getElem_cons_succ, List.getElem_cons_zero, List.setIfInBounds_toArray, List.set_cons_zero, List.set_cons_succ]
                refine wpAnyH_ready (rs := [15]) (by kernel_rfl) (by simp) ?_
                refine AllReadyH.cons rfl (fun Kc hKc => ?_) AllReadyH.nil
                have CW := P81.write (by omega) (by omega) (by omega) (LA ++ [cc] ++ LB) (by simp only [List.length_append, List.length_cons, List.length_nil]; omega)
                rw [← ba_app, ← ba_app] at CW
                go_simp
                go_at_call 14
                refine CW.mono ?_
                rintro e wz82 ⟨rfl, PZ⟩
                go_wp2_with fail
                refine hKc.out _ _ trivial (fun hHeld => ?_)
                clear hKc Kc
                try simp only [Act.put, List.setIfInBounds_toArray, List.set_cons_zero, List.set_cons_succ]
                refine wpAnyH_done (by kernel_rfl) ?_ _
                go_wp2_with fail
                go_roundg (s.length - (j + 1))
                case measure => omega
                case rel => exact ⟨j + 1, i + 1 + 1, t ++ (LA ++ [cc] ++ LB), by omega, by omega, by go_num, by omega, by simp only [List.length_append, List.length_cons, List.length_nil]; omega, by simp only [List.length_append, List.length_cons, List.length_nil]; omega, PZ, RELT.out LA LB ra rb hLA.out hLB.out, hid (fun e => absurd e (by omega))⟩
              · skip
                have CN := P76.next (by omega) (by omega) (by omega) hat hpos hle (by omega)
                go_simp
                refine CN.mono ?_
                rintro e wa83 ⟨⟨m, hm, rfl⟩, P84, hKwa83⟩
                clear CN
                have hmd : (m : Int).tmod 2 = ((m % 2 : Nat) : Int) := mod_two
                have hq : m % 2 < 2 := Nat.mod_lt _ (by decide)
                generalize m % 2 = rb at hmd hq
                have hu : IntKind.u8.wrap (rb : Int) = (rb : Int) := IntWalk.u8_in _ (by omega)
                have hi : IntKind.i64.wrap (rb : Int) = (rb : Int) := IntWalk.i64_in _ (by omega)
                have qx85 := hKwa83 _ _ (by have := P76.lt; omega) qx77
                go_wp2_with fail
                refine hKc.out _ _ trivial (fun hHeld => ?_)
                clear hKc Kc
                try simp only [Act.put, List.setIfInBounds_toArray, List.set_cons_zero, List.set_cons_succ]
                refine wpAnyH_take (i := 11) (v := ?vn44) rfl (by kernel_rfl) (by kernel_rfl) (by kernel_rfl) (fun _ _ _ h => h) (Or.inl ⟨by rfl, ?yn44⟩) hHeld ?_
                case yn44 => (intro w' hSw; (try dsimp only at hSw); go_simp); (try with_reducible rfl)
                try simp only [Act.put, List.setIfInBounds_toArray, List.set_cons_zero, List.set_cons_succ]
                refine wpAnyH_take (i := 12) (v := ?vn45) rfl (by kernel_rfl) (by kernel_rfl) (by kernel_rfl) (fun _ _ _ h => h) (Or.inl ⟨by rfl, ?yn45⟩) hHeld ?_
                case yn45 => (intro w' hSw; (try dsimp only at hSw); go_simp); (try with_reducible rfl)
                try simp only [Act.put, List.setIfInBounds_toArray, List.set_cons_zero, List.set_cons_succ]
                clear hmd hu hi hm
                refine wpAnyH_ready (rs := [7,13]) (by kernel_rfl) (by simp) ?_
                refine AllReadyH.cons rfl (fun Kc hKc => ?_) (AllReadyH.cons rfl (fun Kc hKc => ?_) AllReadyH.nil)
                · skip
                  have hc := hcv.out wa83 Wd.heap.size 1 qx85
                  go_simp
                  refine hKc.out _ _ trivial (fun hHeld => ?_)
                  clear hKc Kc
                  try simp only [Act.put, List.setIfInBounds_toArray, List.set_cons_zero, List.set_cons_succ]
                  clear hc
                  refine wpAnyH_take (i := 8) (v := ?vn46) rfl (by kernel_rfl) (by kernel_rfl) (by kernel_rfl) (fun _ _ _ h => h) (Or.inl ⟨by rfl, ?yn46⟩) hHeld ?_
                  case yn46 => (intro w' hSw; (try dsimp only at hSw); go_simp; rw [if_neg (by omega)]); (try with_reducible rfl)
                  try simp only [Act.put, List.setIfInBounds_toArray, List.set_cons_zero, List.set_cons_succ]
                  try simp only [Act.put, List.getElem_toArray, List.getElem_cons_succ, List.getElem_cons_zero, List.setIfInBounds_toArray, List.set_cons_zero, List.set_cons_succ]
                  refine wpAnyH_ready (rs := [13]) (by kernel_rfl) (by simp) ?_
                  refine AllReadyH.cons rfl (fun Kc hKc => ?_) AllReadyH.nil
                  have CR := repS_any rb wa83 (by omega)
                  go_simp
                  go_at_call 15
                  refine CR.mono ?_
                  rintro e wb86 ⟨⟨LB, rfl, hLB, hnLB⟩, hBwb86⟩
                  clear CR
                  replace hLB := hid hLB
                  have P87 := P84.under hBwb86
                  go_wp2_with fail
                  refine hKc.out _ _ trivial (fun hHeld => ?_)
                  clear hKc Kc
                  try simp only [Act.put, List.setIfInBounds_toArray, List.set_cons_zero, List.set_cons_succ]
                  refine wpAnyH_take (i := 14) (v := ?vn47) rfl (by kernel_rfl) (by kernel_rfl) (by kernel_rfl) (fun _ _ _ h => h) (Or.inl ⟨by rfl, ?yn47⟩) hHeld ?_
                  case yn47 => (intro w' hSw; (try dsimp only at hSw); go_simp; rw [if_neg (by omega)]); (try with_reducible rfl)
                  try simp only [Act.put, List.setIfInBounds_toArray, List.set_cons_zero, List.set_cons_succ]
                  try simp only [Act.put, List.getElem_toArray, List.getElem_cons_succ, List.getElem_cons_zero, List.setIfInBounds_toArray, List.set_cons_zero, List.set_cons_succ]
                  refine wpAnyH_ready (rs := [15]) (by kernel_rfl) (by simp) ?_
                  refine AllReadyH.cons rfl (fun Kc hKc => ?_) AllReadyH.nil
                  have CW := P87.write (by omega) (by omega) (by omega) (LA ++ [cc] ++ LB) (by simp only [List.length_append, List.length_cons, List.length_nil]; omega)
                  rw [← ba_app, ← ba_app] at CW
                  go_simp
                  go_at_call 14
                  refine CW.mono ?_
                  rintro e wz88 ⟨rfl, PZ⟩
                  go_wp2_with fail
                  refine hKc.out _ _ trivial (fun hHeld => ?_)
                  clear hKc Kc
                  try simp only [Act.put, List.setIfInBounds_toArray, List.set_cons_zero, List.set_cons_succ]
                  refine wpAnyH_done (by kernel_rfl) ?_ _
                  go_wp2_with fail
                  go_roundg (s.length - (j + 1))
                  case measure => omega
                  case rel => exact ⟨j + 1, i + 1 + 1, t ++ (LA ++ [cc] ++ LB), by omega, by omega, by go_num, by omega, by simp only [List.length_append, List.length_cons, List.length_nil]; omega, by simp only [List.length_append, List.length_cons, List.length_nil]; omega, PZ, RELT.out LA LB ra rb hLA.out hLB.out, hid (fun e => absurd e (by omega))⟩
                · skip
                  have CR := repS_any rb wa83 (by omega)
                  go_simp
                  go_at_call 15
                  refine CR.mono ?_
                  rintro e wb89 ⟨⟨LB, rfl, hLB, hnLB⟩, hBwb89⟩
                  clear CR
                  replace hLB := hid hLB
                  have P90 := P84.under hBwb89
                  have qx91 := row_below qx85 hBwb89
                  go_wp2_with fail
                  refine hKc.out _ _ trivial (fun hHeld => ?_)
                  clear hKc Kc
                  try simp only [Act.put, List.setIfInBounds_toArray, List.set_cons_zero, List.set_cons_succ]
                  refine wpAnyH_ready (rs := [7]) (by kernel_rfl) (by simp) ?_
                  refine AllReadyH.cons rfl (fun Kc hKc => ?_) AllReadyH.nil
                  have hc := hcv.out wb89 Wd.heap.size 1 qx91
                  go_simp
                  refine hKc.out _ _ trivial (fun hHeld => ?_)
                  clear hKc Kc
                  try simp only [Act.put, List.setIfInBounds_toArray, List.set_cons_zero, List.set_cons_succ]
                  clear hc
                  refine wpAnyH_take (i := 8) (v := ?vn48) rfl (by kernel_rfl) (by kernel_rfl) (by kernel_rfl) (fun _ _ _ h => h) (Or.inl ⟨by rfl, ?yn48⟩) hHeld ?_
                  case yn48 => (intro w' hSw; (try dsimp only at hSw); go_simp; rw [if_neg (by omega)]); (try with_reducible rfl)
                  try simp only [Act.put, List.setIfInBounds_toArray, List.set_cons_zero, List.set_cons_succ]
                  try simp only [Act.put, List.getElem_toArray, List.getElem_cons_succ, List.getElem_cons_zero, List.setIfInBounds_toArray, List.set_cons_zero, List.set_cons_succ]
                  refine wpAnyH_take (i := 14) (v := ?vn49) rfl (by kernel_rfl) (by kernel_rfl) (by kernel_rfl) (fun _ _ _ h => h) (Or.inl ⟨by rfl, ?yn49⟩) hHeld ?_
                  case yn49 => (intro w' hSw; (try dsimp only at hSw); go_simp; rw [if_neg (by omega)]); (try with_reducible rfl)
                  try simp only [Act.put, List.setIfInBounds_toArray, List.set_cons_zero, List.set_cons_succ]
                  try simp only [Act.put, List.getElem_toArray, List.getElem_cons_succ, List.getElem_cons_zero, List.setIfInBounds_toArray, List.set_cons_zero, List.set_cons_succ]
                  refine wpAnyH_ready (rs := [15]) (by kernel_rfl) (by simp) ?_
                  refine AllReadyH.cons rfl (fun Kc hKc => ?_) AllReadyH.nil
                  have CW := P90.write (by omega) (by omega) (by omega) (LA ++ [cc] ++ LB) (by simp only [List.length_append, List.length_cons, List.length_nil]; omega)
                  rw [← ba_app, ← ba_app] at CW
                  go_simp
                  go_at_call 14
                  refine CW.mono ?_
                  rintro e wz92 ⟨rfl, PZ⟩
                  go_wp2_with fail
                  refine hKc.out _ _ trivial (fun hHeld => ?_)
                  clear hKc Kc
                  try simp only [Act.put, List.setIfInBounds_toArray, List.set_cons_zero, List.set_cons_succ]
                  refine wpAnyH_done (by kernel_rfl) ?_ _
                  go_wp2_with fail
                  go_roundg (s.length - (j + 1))
                  case measure => omega
                  case rel => exact ⟨j + 1, i + 1 + 1, t ++ (LA ++ [cc] ++ LB), by omega, by omega, by go_num, by omega, by simp only [List.length_append, List.length_cons, List.length_nil]; omega, by simp only [List.length_append, List.length_cons, List.length_nil]; omega, PZ, RELT.out LA LB ra rb hLA.out hLB.out, hid (fun e => absurd e (by omega))⟩
            · skip
              have hc := hcv.out wa72 Wd.heap.size 1 qx74
              go_simp
              refine hKc.out _ _ trivial (fun hHeld => ?_)
              clear hKc Kc
              try simp only [Act.put, List.setIfInBounds_toArray, List.set_cons_zero, List.set_cons_succ]
              clear hc
              refine wpAnyH_ready (rs := [4]) (by kernel_rfl) (by simp) ?_
              refine AllReadyH.cons rfl (fun Kc hKc => ?_) AllReadyH.nil
              have CR := repS_any ra wa72 (by omega)
              go_simp
              go_at_call 15
              refine CR.mono ?_
              rintro e wb93 ⟨⟨LA, rfl, hLA, hnLA⟩, hBwb93⟩
              clear CR
              replace hLA := hid hLA
              have P94 := P73.under hBwb93
              go_wp2_with fail
              refine hKc.out _ _ trivial (fun hHeld => ?_)
              clear hKc Kc
              try simp only [Act.put, List.setIfInBounds_toArray, List.set_cons_zero, List.set_cons_succ]
              refine wpAnyH_take (i := 8) (v := ?vn50) rfl (by kernel_rfl) (by kernel_rfl) (by kernel_rfl) (fun _ _ _ h => h) (Or.inl ⟨by rfl, ?yn50⟩) hHeld ?_
              case yn50 => (intro w' hSw; (try dsimp only at hSw); go_simp; rw [if_neg (by omega)]); (try with_reducible rfl)
              try simp only [Act.put, List.setIfInBounds_toArray, List.set_cons_zero, List.set_cons_succ]
              try simp only [Act.put, List.getElem_toArray, List.getElem_cons_succ, List.getElem_cons_zero, List.setIfInBounds_toArray, List.set_cons_zero, List.set_cons_succ]
              refine wpAnyH_ready (rs := [10]) (by kernel_rfl) (by simp) ?_
              refine AllReadyH.cons rfl (fun Kc hKc => ?_) AllReadyH.nil
              have CN := P94.next (by omega) (by omega) (by omega) hat hpos hle (by omega)
              go_simp
              refine CN.mono ?_
              rintro e wa95 ⟨⟨m, hm, rfl⟩, P96, hKwa95⟩
              clear CN
              have hmd : (m : Int).tmod 2 = ((m % 2 : Nat) : Int) := mod_two
              have hq : m % 2 < 2 := Nat.mod_lt _ (by decide)
              generalize m % 2 = rb at hmd hq
              have hu : IntKind.u8.wrap (rb : Int) = (rb : Int) := IntWalk.u8_in _ (by omega)
              have hi : IntKind.i64.wrap (rb : Int) = (rb : Int) := IntWalk.i64_in _ (by omega)
              go_wp2_with fail
              refine hKc.out _ _ trivial (fun hHeld => ?_)
              clear hKc Kc
              try simp only [Act.put, List.setIfInBounds_toArray, List.set_cons_zero, List.set_cons_succ]
              refine wpAnyH_take (i := 11) (v := ?vn51) rfl (by kernel_rfl) (by kernel_rfl) (by kernel_rfl) (fun _ _ _ h => h) (Or.inl ⟨by rfl, ?yn51⟩) hHeld ?_
              case yn51 => (intro w' hSw; (try dsimp only at hSw); go_simp); (try with_reducible rfl)
              try simp only [Act.put, List.setIfInBounds_toArray, List.set_cons_zero, List.set_cons_succ]
              refine wpAnyH_take (i := 12) (v := ?vn52) rfl (by kernel_rfl) (by kernel_rfl) (by kernel_rfl) (fun _ _ _ h => h) (Or.inl ⟨by rfl, ?yn52⟩) hHeld ?_
              case yn52 => (intro w' hSw; (try dsimp only at hSw); go_simp); (try with_reducible rfl)
              try simp only [Act.put, List.setIfInBounds_toArray, List.set_cons_zero, List.set_cons_succ]
              clear hmd hu hi hm
              refine wpAnyH_ready (rs := [13]) (by kernel_rfl) (by simp) ?_
              refine AllReadyH.cons rfl (fun Kc hKc => ?_) AllReadyH.nil
              have CR := repS_any rb wa95 (by omega)
              go_simp
              go_at_call 15
              refine CR.mono ?_
              rintro e wb97 ⟨⟨LB, rfl, hLB, hnLB⟩, hBwb97⟩
              clear CR
              replace hLB := hid hLB
              have P98 := P96.under hBwb97
              go_wp2_with fail
              refine hKc.out _ _ trivial (fun hHeld => ?_)
              clear hKc Kc
              try simp only [Act.put, List.setIfInBounds_toArray, List.set_cons_zero, List.set_cons_succ]
              refine wpAnyH_take (i := 14) (v := ?vn53) rfl (by kernel_rfl) (by kernel_rfl) (by kernel_rfl) (fun _ _ _ h => h) (Or.inl ⟨by rfl, ?yn53⟩) hHeld ?_
              case yn53 => (intro w' hSw; (try dsimp only at hSw); go_simp; rw [if_neg (by omega)]); (try with_reducible rfl)
              try simp only [Act.put, List.setIfInBounds_toArray, List.set_cons_zero, List.set_cons_succ]
              try simp only [Act.put, List.getElem_toArray, List.getElem_cons_succ, List.getElem_cons_zero, List.setIfInBounds_toArray, List.set_cons_zero, List.set_cons_succ]
              refine wpAnyH_ready (rs := [15]) (by kernel_rfl) (by simp) ?_
              refine AllReadyH.cons rfl (fun Kc hKc => ?_) AllReadyH.nil
              have CW := P98.write (by omega) (by omega) (by omega) (LA ++ [cc] ++ LB) (by simp only [List.length_append, List.length_cons, List.length_nil]; omega)
              rw [← ba_app, ← ba_app] at CW
              go_simp
              go_at_call 14
              refine CW.mono ?_
              rintro e wz99 ⟨rfl, PZ⟩
              go_wp2_with fail
              refine hKc.out _ _ trivial (fun hHeld => ?_)
              clear hKc Kc
              try simp only [Act.put, List.setIfInBounds_toArray, List.set_cons_zero, List.set_cons_succ]
              refine wpAnyH_done (by kernel_rfl) ?_ _
              go_wp2_with fail
              go_roundg (s.length - (j + 1))
              case measure => omega
              case rel => exact ⟨j + 1, i + 1 + 1, t ++ (LA ++ [cc] ++ LB), by omega, by omega, by go_num, by omega, by simp only [List.length_append, List.length_cons, List.length_nil]; omega, by simp only [List.length_append, List.length_cons, List.length_nil]; omega, PZ, RELT.out LA LB ra rb hLA.out hLB.out, hid (fun e => absurd e (by omega))⟩
          · skip
            have hc := hcv.out wl69 Wd.heap.size 1 qx71
            go_simp
            refine hKc.out _ _ trivial (fun hHeld => ?_)
            clear hKc Kc
            try simp only [Act.put, List.setIfInBounds_toArray, List.set_cons_zero, List.set_cons_succ]
            clear hc
            refine wpAnyH_ready (rs := [1]) (by kernel_rfl) (by simp) ?_
            refine AllReadyH.cons rfl (fun Kc hKc => ?_) AllReadyH.nil
            have CN := P70.next (by omega) (by omega) (by omega) hat hpos hle (by omega)
            go_simp
            refine CN.mono ?_
            rintro e wa100 ⟨⟨m, hm, rfl⟩, P101, hKwa100⟩
            clear CN
            have hmd : (m : Int).tmod 3 = ((m % 3 : Nat) : Int) := mod_three
            have hq : m % 3 < 3 := Nat.mod_lt _ (by decide)
            generalize m % 3 = ra at hmd hq
            have hu : IntKind.u8.wrap (ra : Int) = (ra : Int) := IntWalk.u8_in _ (by omega)
            have hi : IntKind.i64.wrap (ra : Int) = (ra : Int) := IntWalk.i64_in _ (by omega)
            go_wp2_with fail
            refine hKc.out _ _ trivial (fun hHeld => ?_)
            clear hKc Kc
            try simp only [Act.put, List.setIfInBounds_toArray, List.set_cons_zero, List.set_cons_succ]
            refine wpAnyH_take (i := 2) (v := ?vn54) rfl (by kernel_rfl) (by kernel_rfl) (by kernel_rfl) (fun _ _ _ h => h) (Or.inl ⟨by rfl, ?yn54⟩) hHeld ?_
            case yn54 => (intro w' hSw; (try dsimp only at hSw); go_simp); (try with_reducible rfl)
            try simp only [Act.put, List.setIfInBounds_toArray, List.set_cons_zero, List.set_cons_succ]
            refine wpAnyH_take (i := 3) (v := ?vn55) rfl (by kernel_rfl) (by kernel_rfl) (by kernel_rfl) (fun _ _ _ h => h) (Or.inl ⟨by rfl, ?yn55⟩) hHeld ?_
            case yn55 => (intro w' hSw; (try dsimp only at hSw); go_simp); (try with_reducible rfl)
            try simp only [Act.put, List.setIfInBounds_toArray, List.set_cons_zero, List.set_cons_succ]
            clear hmd hu hi hm
            refine wpAnyH_ready (rs := [4]) (by kernel_rfl) (by simp) ?_
            refine AllReadyH.cons rfl (fun Kc hKc => ?_) AllReadyH.nil
            have CR := repS_any ra wa100 (by omega)
            go_simp
            go_at_call 15
            refine CR.mono ?_
            rintro e wb102 ⟨⟨LA, rfl, hLA, hnLA⟩, hBwb102⟩
            clear CR
            replace hLA := hid hLA
            have P103 := P101.under hBwb102
            go_wp2_with fail
            refine hKc.out _ _ trivial (fun hHeld => ?_)
            clear hKc Kc
            try simp only [Act.put, List.setIfInBounds_toArray, List.set_cons_zero, List.set_cons_succ]
            refine wpAnyH_take (i := 8) (v := ?vn56) rfl (by kernel_rfl) (by kernel_rfl) (by kernel_rfl) (fun _ _ _ h => h) (Or.inl ⟨by rfl, ?yn56⟩) hHeld ?_
            case yn56 => (intro w' hSw; (try dsimp only at hSw); go_simp; rw [if_neg (by omega)]); (try with_reducible rfl)
            try simp only [Act.put, List.setIfInBounds_toArray, List.set_cons_zero, List.set_cons_succ]
            try simp only [Act.put, List.getElem_toArray, List.getElem_cons_succ, List.getElem_cons_zero, List.setIfInBounds_toArray, List.set_cons_zero, List.set_cons_succ]
            refine wpAnyH_ready (rs := [10]) (by kernel_rfl) (by simp) ?_
            refine AllReadyH.cons rfl (fun Kc hKc => ?_) AllReadyH.nil
            have CN := P103.next (by omega) (by omega) (by omega) hat hpos hle (by omega)
            go_simp
            refine CN.mono ?_
            rintro e wa104 ⟨⟨m, hm, rfl⟩, P105, hKwa104⟩
            clear CN
            have hmd : (m : Int).tmod 2 = ((m % 2 : Nat) : Int) := mod_two
            have hq : m % 2 < 2 := Nat.mod_lt _ (by decide)
            generalize m % 2 = rb at hmd hq
            have hu : IntKind.u8.wrap (rb : Int) = (rb : Int) := IntWalk.u8_in _ (by omega)
            have hi : IntKind.i64.wrap (rb : Int) = (rb : Int) := IntWalk.i64_in _ (by omega)
            go_wp2_with fail
            refine hKc.out _ _ trivial (fun hHeld => ?_)
            clear hKc Kc
            try simp only [Act.put, List.setIfInBounds_toArray, List.set_cons_zero, List.set_cons_succ]
            refine wpAnyH_take (i := 11) (v := ?vn57) rfl (by kernel_rfl) (by kernel_rfl) (by kernel_rfl) (fun _ _ _ h => h) (Or.inl ⟨by rfl, ?yn57⟩) hHeld ?_
            case yn57 => (intro w' hSw; (try dsimp only at hSw); go_simp); (try with_reducible rfl)
            try simp only [Act.put, List.setIfInBounds_toArray, List.set_cons_zero, List.set_cons_succ]
            refine wpAnyH_take (i := 12) (v := ?vn58) rfl (by kernel_rfl) (by kernel_rfl) (by kernel_rfl) (fun _ _ _ h => h) (Or.inl ⟨by rfl, ?yn58⟩) hHeld ?_
            case yn58 => (intro w' hSw; (try dsimp only at hSw); go_simp); (try with_reducible rfl)
            try simp only [Act.put, List.setIfInBounds_toArray, List.set_cons_zero, List.set_cons_succ]
            clear hmd hu hi hm
            refine wpAnyH_ready (rs := [13]) (by kernel_rfl) (by simp) ?_
            refine AllReadyH.cons rfl (fun Kc hKc => ?_) AllReadyH.nil
            have CR := repS_any rb wa104 (by omega)
            go_simp
            go_at_call 15
            refine CR.mono ?_
            rintro e wb106 ⟨⟨LB, rfl, hLB, hnLB⟩, hBwb106⟩
            clear CR
            replace hLB := hid hLB
            have P107 := P105.under hBwb106
            go_wp2_with fail
            refine hKc.out _ _ trivial (fun hHeld => ?_)
            clear hKc Kc
            try simp only [Act.put, List.setIfInBounds_toArray, List.set_cons_zero, List.set_cons_succ]
            refine wpAnyH_take (i := 14) (v := ?vn59) rfl (by kernel_rfl) (by kernel_rfl) (by kernel_rfl) (fun _ _ _ h => h) (Or.inl ⟨by rfl, ?yn59⟩) hHeld ?_
            case yn59 => (intro w' hSw; (try dsimp only at hSw); go_simp; rw [if_neg (by omega)]); (try with_reducible rfl)
            try simp only [Act.put, List.setIfInBounds_toArray, List.set_cons_zero, List.set_cons_succ]
            try simp only [Act.put, List.getElem_toArray, List.getElem_cons_succ, List.getElem_cons_zero, List.setIfInBounds_toArray, List.set_cons_zero, List.set_cons_succ]
            refine wpAnyH_ready (rs := [15]) (by kernel_rfl) (by simp) ?_
            refine AllReadyH.cons rfl (fun Kc hKc => ?_) AllReadyH.nil
            have CW := P107.write (by omega) (by omega) (by omega) (LA ++ [cc] ++ LB) (by simp only [List.length_append, List.length_cons, List.length_nil]; omega)
            rw [← ba_app, ← ba_app] at CW
            go_simp
            go_at_call 14
            refine CW.mono ?_
            rintro e wz108 ⟨rfl, PZ⟩
            go_wp2_with fail
            refine hKc.out _ _ trivial (fun hHeld => ?_)
            clear hKc Kc
            try simp only [Act.put, List.setIfInBounds_toArray, List.set_cons_zero, List.set_cons_succ]
            refine wpAnyH_done (by kernel_rfl) ?_ _
            go_wp2_with fail
            go_roundg (s.length - (j + 1))
            case measure => omega
            case rel => exact ⟨j + 1, i + 1 + 1, t ++ (LA ++ [cc] ++ LB), by omega, by omega, by go_num, by omega, by simp only [List.length_append, List.length_cons, List.length_nil]; omega, by simp only [List.length_append, List.length_cons, List.length_nil]; omega, PZ, RELT.out LA LB ra rb hLA.out hLB.out, hid (fun e => absurd e (by omega))⟩
      | false =>
        rw [hp] at CI
        have HP := hid hp
        clear hp
        have CB := P.byte (by omega) (by omega) (by omega) cc (by omega)
        go_wp2_with (first | (go_at_call 13; refine CI.mono ?_; rintro e w' ⟨⟨y, rfl, hy⟩, hw⟩; obtain rfl : wr = w' := hw.symm) | fail)
        refine CB.mono ?_
        rintro e w5 ⟨rfl, P5⟩
        clear CB CI hb hcm
        by_cases h10 : cc = 10
        · subst h10
          have hz10 : ((((10 : UInt8).toNat : Nat) : Int) == 10) = true := by decide
          obtain ⟨w6, hw6, -, -, hz6, hB6, q6⟩ := new_block w5 #[.string ⟨#[]⟩, .string ⟨#[10]⟩, .string ⟨#[32, 32, 10]⟩, .string ⟨#[35, 32, 120, 32, 61, 32, 40, 10]⟩, .string ⟨#[35, 10, 10]⟩] 9
          have P6 := P5.under hB6
          have CN := P6.next (by omega) (by omega) (by omega) hat hpos hle (by omega)
          have hne := P5.lt
          clear P
          go_wp2_with fail
          refine CN.mono ?_
          rintro e w7 ⟨⟨m, hm, rfl⟩, P7, hK7⟩
          have q7 := hK7 _ _ (by omega) q6
          have hmd : (m : Int).tmod 5 = ((m % 5 : Nat) : Int) := mod_five
          have hq : m % 5 < 5 := Nat.mod_lt _ (by decide)
          generalize m % 5 = r at hmd hq
          have hu : IntKind.u8.wrap (r : Int) = (r : Int) := IntWalk.u8_in _ (by omega)
          have cr := cell_row q7 (ins_get r hq)
          have hrz : (r : Int) < 5 := by omega
          have hil := ins_len r
          have CW := P7.write (by omega) (by omega) (by omega) (insX r) (by simp only [List.length_append, List.length_cons, List.length_nil]; omega)
          have HR := hid (show SpT (s.take (j + 1)) (t ++ [10] ++ insX r) by rw [HS.out]; exact SpT.snoc_feed HT.out r)
          generalize insX r = X at cr CW HR hil
          clear CN q6 q7 hK7 hw6
          go_wp2_with fail
          refine CW.mono ?_
          rintro e w8 ⟨rfl, P8⟩
          go_wp2_with fail
          go_roundg (s.length - (j + 1))
          case measure => omega
          case rel => exact ⟨j + 1, i + 1, t ++ [10] ++ X, by omega, by omega, by go_num, by omega, by simp only [List.length_append, List.length_cons, List.length_nil]; omega, by simp only [List.length_append, List.length_cons, List.length_nil]; omega, P8, HR, hid (fun e => absurd e (by omega))⟩
        · have hz10 : (((cc.toNat : Nat) : Int) == 10) = false := beq_eq_false_iff_ne.2 (fun e => h10 (UInt8.toNat_inj.1 (by show cc.toNat = 10; omega)))
          have HR := hid (show SpT (s.take (j + 1)) (t ++ [cc]) by rw [HS.out]; exact SpT.snoc_other HT.out HP.out h10)
          clear h10
          go_wp2_with fail
          go_roundg (s.length - (j + 1))
          case measure => omega
          case rel => exact ⟨j + 1, i, t ++ [cc], by omega, by omega, by go_num, by omega, by simp only [List.length_append, List.length_cons, List.length_nil]; omega, by simp only [List.length_append, List.length_cons, List.length_nil]; omega, P5, HR, hid (fun e => absurd e (by omega))⟩
    · have hltz : ¬ (j : Int) < (s.length : Int) := by omega
      have hjs : s.take j = s := List.take_of_length_le (by omega)
      rw [hjs] at HT
      have hEr := hE.below P.below hE.size
      obtain ⟨e1, e2⟩ := spaces_same HT.out H35.out (by omega) (by omega)
      have CR := Read_any s wr hEr (by omega)
      have CT : ∀ W, Env W → Calls Tryz.prog 17 #[.string ⟨t.toArray⟩] W (ReadPost W (readP t)) := fun W hW => Read_any t W hW (by omega)
      generalize readP t = rt at CT e1 e2
      generalize readP s = rs at CR e1 e2
      obtain ⟨N2, l2, ec2⟩ := rt
      obtain ⟨N, l, ec⟩ := rs
      simp only at e1 e2
      subst e1; subst e2
      have hee : (ec2 == ec2) = true := beq_self_eq_true ec2
      have H00 : Hid (t = [] → wr.heap[w.heap.size + 1]? = some (.cells #[.pointer none, .slice none 0 0] 27 (0, 0))) := hid (fun e => H0.out (by rw [e] at htj; simpa using htj))
      have HB := P.bld
      clear hjs HT H0 hj hgg hlt
      generalize wr = W1 at *
      go_wp2_with fail
      refine CR.mono ?_
      rintro e w5 ⟨hB5, vn, rfl, hN⟩
      obtain ⟨Ap, cp, Ag, cg, rfl⟩ := net_parts hN
      obtain ⟨w6, hw6, -, -, hz6, hB6, q6⟩ := new_block w5 #[.slice Ap N2.pre.length cp, .slice Ag N2.gates.length cg, .int .i64 N2.out] 40
      have hB56 := below_then hB5 hB5.size hB6
      have CS := stringS_any (w.heap.size + 1) t w6 (HB.below hB56) (fun e => row_below (H00.out e) hB56)
      have hN6 := hN.keep (keeps_below hB6)
      have c60 := cell_row q6 (j := 0) (v := .slice Ap N2.pre.length cp) rfl
      have c61 := cell_row q6 (j := 1) (v := .slice Ag N2.gates.length cg) rfl
      have c62 := cell_row q6 (j := 2) (v := .int .i64 N2.out) rfl
      have hB06 := below_then P.below P.below.size hB56
      clear hN CR q6
      go_wp2_with fail
      refine CS.mono ?_
      rintro e w7 ⟨rfl, K7, hB7⟩
      have hB07 := hB06.trans (hB7.mono (by omega : w.heap.size ≤ w.heap.size + 1))
      have CR2 := CT w7 (hE.below hB07 hE.size)
      clear CS CT
      go_wp2_with fail
      refine CR2.mono ?_
      rintro e w8 ⟨hB8, vn2, rfl, hN2⟩
      obtain ⟨Bp, dp, Bg, dg, rfl⟩ := net_parts hN2
      obtain ⟨w9, hw9, -, -, hz9, hB9, q9⟩ := new_block w8 #[.slice Bp N2.pre.length dp, .slice Bg N2.gates.length dg, .int .i64 N2.out] 40
      have hB79 := below_then hB8 hB8.size hB9
      have K9 := K7.trans (keeps_below hB79)
      have d0 := K9 _ _ c60
      have d1 := K9 _ _ c61
      have d2 := K9 _ _ c62
      have b0 := cell_row q9 (j := 0) (v := .slice Bp N2.pre.length dp) rfl
      have b1 := cell_row q9 (j := 1) (v := .slice Bg N2.gates.length dg) rfl
      have b2 := cell_row q9 (j := 2) (v := .int .i64 N2.out) rfl
      have CSm := SameR_any _ _ N2 N2 w9 (hN6.keep K9) (hN2.keep (keeps_below hB9))
      rw [decide_eq_true (rfl : N2 = N2)] at CSm
      have hB09 := below_then hB07 hB07.size hB79
      clear CR2 c60 c61 c62 q9 hN2 hN6
      go_wp2_with fail
      refine CSm.mono ?_
      rintro e w10 ⟨rfl, hB10⟩
      have hB010 := below_then hB09 hB09.size hB10
      clear CSm d0 d1 d2 b0 b1 b2
      go_wp2_with fail
      refine (works_any w10 (hE.below hB010 hE.size)).mono ?_
      rintro e w11 ⟨rfl, hB11⟩
      go_wp2_with fail
      go_ret
      exact ⟨rfl, below_then hB010 hB010.size hB11⟩
theorem QcirSpaces_any (s : Bs) (v : Value) (xs : Bs) (w : World) (hl : s.length ≤ 4611686018427387904) (hat : BytesAt w v xs) (hE : Env w) :
    Calls Tryz.prog 3 #[.string ⟨s.toArray⟩, v] w fun e w' => e = .returned (.bool true) ∧ Below w.heap.size w w' := by
  by_cases h : 4000 < s.length
  · exact QcirSpaces_long s v xs w hl hat hE h
  · by_cases h0 : xs.length = 0
    · exact QcirSpaces_none s v xs w hl hat hE h h0
    · by_cases h1 : 1000 < xs.length
      · exact QcirSpaces_many s v xs w hl hat hE h h0 h1
      · rcases h35 : decide (0 ≤ Lib.indexByte s 35) with _ | _
        · exact QcirSpaces_good s v xs w hl hat hE h h0 h1 h35
        · exact QcirSpaces_hash s v xs w hl hat hE h h0 h1 h35
end Go.Proofs.YtnlobmepajakcaaGreatDoor
