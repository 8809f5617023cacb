/- What add of the document's reader does with a gate line; the condition: texts have at most 2^22 bytes. -/
import Derived.Test.YtnlobmepajakcaaGreatDoorZRtG
set_option linter.unusedVariables false
set_option linter.unusedSimpArgs false
namespace Go.Proofs.YtnlobmepajakcaaGreatDoor
open Go.RowKit Go.Shelf
attribute [local go_sem] Oper.semAt_some

theorem addL_gate (r : RS) (no : Nat) (v : Int) (k : Nat) (l : List Int) : addL r no (.gate v k l) = if r.done = false then (5, r)
    else if (k = 3 ∧ l.length ≠ 2) ∨ (k = 4 ∧ l.length ≠ 3) then (2, r)
    else if r.seen v.toNat = true then (7, r)
    else if 200000 < r.lits + l.length then (3, r)
    else (0, { r with seen := upd r.seen v.toNat true, lits := r.lits + l.length, gates := r.gates ++ [⟨v, k, l⟩], at_ := r.at_ ++ [no] }) := rfl
set_option maxRecDepth 100000 in
set_option maxHeartbeats 8000000 in
theorem addGate_any (n0 r q no v : Nat) (wd : Bs) (R : RS) (l : List Int) (A : Option Addr) (c : Nat) (wL w : World) (hR : RdrR wL n0 r q R no) (hB : Below wL.heap.size wL w) (hl : w.ownsRow wL.heap.size 3 1 (.slice A l.length c) l.length (nums l)) (hx : ∀ x ∈ l, -65536 ≤ x ∧ x ≤ 65536) (hll : l.length ≤ 4194306) (hno : no ≤ 4194305)
    (hv0 : 0 < v) (hv : v ≤ 65536) (hk0 : kindP wd ≠ 0) :
    Calls Tryz.prog 66 #[.pointer (some ⟨r, 0, none⟩), .agg #[.string ⟨wd.toArray⟩, .slice A l.length c, .int .i64 (v : Int)], .int .i64 (no : Int)] w (AddPost n0 r q no R (.gate v (kindP wd) l) w) := by
  obtain ⟨pv, gv, av, hA, hph⟩ := hR.mem
  obtain ⟨w1, hw1, -, -, hz1, hB1, q1⟩ := new_block w #[.string ⟨wd.toArray⟩, .slice A l.length c, .int .i64 (v : Int)] 113
  have z0 := cell_row q1 (j := 0) (v := .string ⟨wd.toArray⟩) rfl
  have z1 := cell_row q1 (j := 1) (v := .slice A l.length c) rfl
  have z2 := cell_row q1 (j := 2) (v := .int .i64 (v : Int)) rfl
  have hBL1 := below_then hB hB.size hB1
  have hA1 := hA.below hBL1
  have hl1 := hl.kept (grown_of_below hB1 none) (by cases (Value.slice A l.length c).ownBlock <;> simp)
  have c6 := cell_row hA1.row (j := 6) (v := .int .i64 (stg R)) rfl
  have hsz := hR.size
  have hsz2 := hB.size
  have hn1 : n0 ≤ w1.heap.size := by omega
  have hF1 : Fr2 n0 r q w w1 := Fr2.below (hB1.mono (by omega))
  have hrn := hR.rn
  have hqn := hR.qn
  have hzr : w.heap.size ≠ r := by omega
  have hzq : w.heap.size ≠ q := by omega
  have CK := fun W => kind_any wd W
  have hk4 : kindP wd ≤ 4 := by
    unfold kindP
    repeat' split
    all_goals omega
  generalize kindP wd = kd at CK hk0 hk4 ⊢
  cases hd : R.done with
  | false =>
    have hst : (stg R != 2) = true := by unfold stg; rw [if_neg (by rw [hd]; simp)]; split <;> decide
    have HP := hid (show addL R no (.gate v kd l) = (5, R) by unfold addL; simp [hd])
    generalize stg R = sg at c6 hst
    clear hd
    go_enter Tryz.func66, Tryz.ntmps66
    go_wp2_with fail
    go_ret
    unfold AddPost
    rw [HP.out]
    exact ⟨rfl, hF1, fun h => absurd h (by simp)⟩
  | true =>
    have hst : stg R = 2 := by unfold stg; rw [if_pos hd]
    rw [hst] at c6
    have HST := hid hst
    have HD := hid hd
    have HR := hid hR
    have HPH := hid hph
    have hSK : Hid (∀ W, Below w1.heap.size w1 W → (fun W => W.cell? ⟨w.heap.size, 2, none⟩ = some (.int .i64 (v : Int)) ∧ W.cell? ⟨w.heap.size, 0, none⟩ = some (.string ⟨wd.toArray⟩) ∧ W.cell? ⟨w.heap.size, 1, none⟩ = some (.slice A l.length c)) W) := hid (fun W hW => ⟨keeps_below hW _ _ z2, keeps_below hW _ _ z0, keeps_below hW _ _ z1⟩)
    have hAl : Hid (∀ W : World, ∃ w2, W.alloc (.cells #[.int .i64 0, .int .u8 0, .slice none 0 0] 88) = w2 ∧ Below W.heap.size W w2 ∧ w2.heap.size = W.heap.size + 1 ∧ w2.heap[W.heap.size]? = some (.cells #[.int .i64 0, .int .u8 0, .slice none 0 0] 88 (0, 0))) := hid (fun W => by
      obtain ⟨w1, hw1, -, -, hz1, hB1, q1⟩ := new_block W #[.int .i64 0, .int .u8 0, .slice none 0 0] 88
      exact ⟨w1, hw1, hB1, hz1, q1⟩)
    clear hst hd hR hph
    go_enter Tryz.func66, Tryz.ntmps66
    go_wp2_with fail
    have hBd : Below w1.heap.size w1 w1.drew := (Below.refl _ w1).drew
    refine wp_region_held_drew (S := (fun W => W.cell? ⟨w.heap.size, 2, none⟩ = some (.int .i64 (v : Int)) ∧ W.cell? ⟨w.heap.size, 0, none⟩ = some (.string ⟨wd.toArray⟩) ∧ W.cell? ⟨w.heap.size, 1, none⟩ = some (.slice A l.length c))) (by kernel_rfl) (hSK.out _ hBd) (fun hHeld => ?_)
    generalize w1.drew = wq at *
    refine wpAnyH_take (i := 0) (v := ?vn1) rfl (by kernel_rfl) (by kernel_rfl) (by kernel_rfl) (fun _ _ _ h => h) (Or.inl ⟨by rfl, ?yn1⟩) hHeld ?_
    case yn1 => (intro w' hSw; (try dsimp only at hSw); go_simp); (try with_reducible rfl)
    try simp only [Act.put, List.setIfInBounds_toArray, List.set_cons_zero, List.set_cons_succ]
    refine wpAnyH_take (i := 1) (v := ?vn2) rfl (by kernel_rfl) (by kernel_rfl) (by kernel_rfl) (fun _ _ _ h => h) (Or.inl ⟨by rfl, ?yn2⟩) hHeld ?_
    case yn2 => (intro w' hSw; (try dsimp only at hSw); go_simp); (try with_reducible rfl)
    try simp only [Act.put, List.setIfInBounds_toArray, List.set_cons_zero, List.set_cons_succ]
    refine wpAnyH_take (i := 2) (v := ?vn3) rfl (by kernel_rfl) (by kernel_rfl) (by kernel_rfl) (fun _ _ _ h => h) (Or.inl ⟨by rfl, ?yn3⟩) hHeld ?_
    case yn3 => (intro w' hSw; (try dsimp only at hSw); go_simp); (try with_reducible rfl)
    try simp only [Act.put, List.setIfInBounds_toArray, List.set_cons_zero, List.set_cons_succ]
    refine wpAnyH_take (i := 3) (v := ?vn4) rfl (by kernel_rfl) (by kernel_rfl) (by kernel_rfl) (fun _ _ _ h => h) (Or.inl ⟨by rfl, ?yn4⟩) hHeld ?_
    case yn4 => (intro w' hSw; (try dsimp only at hSw); go_simp); (try with_reducible rfl)
    try simp only [Act.put, List.setIfInBounds_toArray, List.set_cons_zero, List.set_cons_succ]
    refine wpAnyH_take (i := 5) (v := ?vn5) rfl (by kernel_rfl) (by kernel_rfl) (by kernel_rfl) (fun _ _ _ h => h) (Or.inl ⟨by rfl, ?yn5⟩) hHeld ?_
    case yn5 => (intro w' hSw; (try dsimp only at hSw); go_simp); (try with_reducible rfl)
    try simp only [Act.put, List.setIfInBounds_toArray, List.set_cons_zero, List.set_cons_succ]
    refine wpAnyH_take (i := 6) (v := ?vn6) rfl (by kernel_rfl) (by kernel_rfl) (by kernel_rfl) (fun _ _ _ h => h) (Or.inl ⟨by rfl, ?yn6⟩) hHeld ?_
    case yn6 => (intro w' hSw; (try dsimp only at hSw); go_simp); (try with_reducible rfl)
    try simp only [Act.put, List.setIfInBounds_toArray, List.set_cons_zero, List.set_cons_succ]
    refine wpAnyH_ready (rs := [4,8]) (by kernel_rfl) (by simp) ?_
    refine AllReadyH.cons rfl (fun Kc hKc => ?_) (AllReadyH.cons rfl (fun Kc hKc => ?_) AllReadyH.nil)
    · skip
      go_simp
      go_at_call 108
      refine (CK wq).mono ?_
      rintro e w3 ⟨rfl, hBk⟩
      have hB3 := below_then hBd hBd.size hBk
      go_wp2_with fail
      refine hKc.out _ _ (hSK.out _ hB3) (fun hHeld => ?_)
      clear hKc Kc
      try simp only [Act.put, List.setIfInBounds_toArray, List.set_cons_zero, List.set_cons_succ]
      refine wpAnyH_take (i := 7) (v := ?vn7) rfl (by kernel_rfl) (by kernel_rfl) (by kernel_rfl) (fun _ _ _ h => h) (Or.inl ⟨by rfl, ?yn7⟩) hHeld ?_
      case yn7 => (intro w' hSw; (try dsimp only at hSw); go_simp); (try with_reducible rfl)
      try simp only [Act.put, List.setIfInBounds_toArray, List.set_cons_zero, List.set_cons_succ]
      refine wpAnyH_ready (rs := [8]) (by kernel_rfl) (by simp) ?_
      refine AllReadyH.cons rfl (fun Kc hKc => ?_) AllReadyH.nil
      obtain ⟨w4, hwa, hBa, hza, q4⟩ := hAl.out w3
      have hB4 := below_then hB3 hB3.size hBa
      go_simp
      refine hKc.out _ _ (hSK.out _ hB4) (fun hHeld => ?_)
      clear hKc Kc
      try simp only [Act.put, List.setIfInBounds_toArray, List.set_cons_zero, List.set_cons_succ]
      have HGB : w1.heap.size ≤ w3.heap.size := hB3.size
      obtain ⟨f0, b0, f1, b1, f2, b2, rr, gg⟩ := put25 q4 (.int .i64 (v : Int)) (.int .u8 (kd : Int)) (.slice A l.length c)
      have hgbn : w1.heap.size ≤ w3.heap.size := by first | exact hBd.size | exact HGB
      have hS5 := hSK.out _ (hB4.grown gg hB4.size (fun k e => by injection e with e; omega))
      refine wpAnyH_ready (rs := [9]) (by kernel_rfl) (by simp) ?_
      refine AllReadyH.cons rfl (fun Kc hKc => ?_) AllReadyH.nil
      go_simp
      refine hKc.out _ _ hS5 (fun hHeld => ?_)
      clear hKc Kc
      try simp only [Act.put, List.setIfInBounds_toArray, List.set_cons_zero, List.set_cons_succ]
      refine wpAnyH_done (by kernel_rfl) ?_ _
      have hB5 := hB4.grown gg hB4.size (fun k e => by injection e with e; omega)
      generalize ((w4.setCell ⟨w3.heap.size, 0, none⟩ (.int .i64 (v : Int))).setCell ⟨w3.heap.size, 1, none⟩ (.int .u8 (kd : Int))).setCell ⟨w3.heap.size, 2, none⟩ (.slice A l.length c) = w5 at *
      generalize w3.heap.size = gb at *
      clear f0 b0 f1 b1 f2 b2 gg hS5 hHeld z0 c6 hw1
      have g0 := cell_row rr (j := 0) (v := .int .i64 (v : Int)) rfl
      have g1 := cell_row rr (j := 1) (v := .int .u8 (kd : Int)) rfl
      have g2 := cell_row rr (j := 2) (v := .slice A l.length c) rfl
      have y1 := keeps_below hB5 _ _ z1
      by_cases h3 : kd = 3
      · subst h3
        by_cases hn2 : l.length = 2
        · have hz2 : ((l.length : Int) != 2) = false := bne_eq_false_iff_eq.2 (by omega)
          have HAR : Hid (¬ ((3 = 3 ∧ l.length ≠ 2) ∨ (3 = 4 ∧ l.length ≠ 3))) := hid (by omega)
          clear hn2
          go_wp2_with fail
          have hA5 := hA1.below hB5
          have hF5 := hF1.trans (Fr2.below (hB5.mono hn1))
          have y1 := keeps_below hB5 _ _ z1
          have y2 := keeps_below hB5 _ _ z2
          have c3 := cell_row hA5.row (j := 3) (v := .slice (some ⟨q, 0, none⟩) 65537 65537) rfl
          have cs := hA5.seen.cell v (by omega)
          have hgbr : gb ≠ r := by omega
          have hgbq : gb ≠ q := by omega
          cases hS : R.seen v with
          | true =>
            rw [hS] at cs
            have HP := hid (show addL R no (.gate v 3 l) = (7, R) by
              rw [addL_gate, if_neg (by rw [HD.out]; simp), if_neg (by simpa using HAR.out), if_pos (by rw [Int.toNat_natCast]; exact hS)])
            clear hS
            go_wp2_with fail
            go_quiet (fail)
            go_wp2_with fail
            go_ret
            unfold AddPost
            rw [HP.out]
            exact ⟨rfl, hF5.trans (Fr2.below (below_drewN (Below.refl _ _) _)), fun h => absurd h (by simp)⟩
          | false =>
            rw [hS] at cs
            have HS := hid hS
            clear hS
            go_wp2_with fail
            go_quiet (fail)
            go_wp2_with fail
            have hAd : RwAt (w5.drewN nq) r q pv gv av R := hA5.heap rfl rfl
            have hBd5 : Below w1.heap.size w1 (w5.drewN nq) := below_drewN hB5 _
            have yd2 : (w5.drewN nq).cell? ⟨w.heap.size, 2, none⟩ = some (.int .i64 (v : Int)) := y2
            have cd3 : (w5.drewN nq).cell? ⟨r, 3, none⟩ = some (.slice (some ⟨q, 0, none⟩) 65537 65537) := c3
            have rrd : (w5.drewN nq).heap[gb]? = some (.cells #[.int .i64 (v : Int), .int .u8 (3 : Int), .slice A l.length c] 88 (0, 0)) := rr
            have hFd : Fr2 n0 r q w (w5.drewN nq) := hF5.trans (Fr2.below (below_drewN (Below.refl _ _) _))
            clear cs y1 y2 c3 g0 g1 g2 rr hA5 hB5 hF5
            generalize w5.drewN nq = w6 at *
            have l1 := fun p => cell_since yd2 p
            have l2 := fun p => cell_since cd3 p
            refine region_tail 7 (by kernel_rfl) (by kernel_rfl) ?_
            simp only [List.take_succ_cons, List.take_zero, List.drop_succ_cons, List.drop_zero]
            repeat (first | go_big_quiet_step (fail) | quiet_step (fail))
            refine wpQuiet_nil ?_
            rintro W ⟨pw, hW⟩
            have hBW : Below w6.heap.size w6 W := by rw [hW]; exact since_below w6 pw
            have hAW := hAd.below hBW
            have csW := hAW.seen.cell v (by omega)
            have cfW := hAW.seen.free v
            have hA7 : RwAt (W.setCell ⟨q, v, none⟩ (.bool true)) r q pv gv av { R with seen := upd R.seen v true } :=
              ⟨(heap_setCell_other W ⟨q, v, none⟩ r _ hAW.ne).trans hAW.row, hAW.seen.store v true, hAW.ne⟩
            have gq : W.grownBy (W.setCell ⟨q, v, none⟩ (.bool true)) (some q) := grown_setCell W ⟨q, v, none⟩ _
            obtain ⟨w7, hw7⟩ : ∃ w7, W.setCell ⟨q, v, none⟩ (.bool true) = w7 := ⟨_, rfl⟩
            rw [hw7] at hA7 gq
            have rr7 := row_grown (row_below rrd hBW) gq (by intro e; injection e with e; exact hgbq e.symm)
            have hlv : R.lits ≤ 200000 := HR.out.ok.lits
            have c5 := cell_row hA7.row (j := 5) (v := .int .i64 (R.lits : Int)) rfl
            have f5 := frozen_of_row _ _ 5 _ _ hA7.row
            have hwl : IntKind.i64.wrap ((R.lits : Int) + (l.length : Int)) = (R.lits : Int) + (l.length : Int) := IntWalk.i64_in _ (by omega)
            have hA8 : RwAt (w7.setCell ⟨r, 5, none⟩ (.int .i64 ((R.lits : Int) + (l.length : Int)))) r q pv gv av { R with seen := upd R.seen v true, lits := R.lits + l.length } := hA7.put 5 _ rfl (by simp [stg])
            have gr8 : w7.grownBy (w7.setCell ⟨r, 5, none⟩ (.int .i64 ((R.lits : Int) + (l.length : Int)))) (some r) := grown_setCell w7 ⟨r, 5, none⟩ _
            obtain ⟨w8, hw8⟩ : ∃ w8, w7.setCell ⟨r, 5, none⟩ (.int .i64 ((R.lits : Int) + (l.length : Int))) = w8 := ⟨_, rfl⟩
            rw [hw8] at hA8 gr8
            have rr8 := row_grown rr7 gr8 (by intro e; injection e with e; exact hgbr e.symm)
            have hFs := hFd.size
            have hBs := hBW.size
            have hgs := gq.size
            have h8s := gr8.size
            have hn6 : n0 ≤ w6.heap.size := by omega
            have hF8 := ((hFd.trans (Fr2.below (hBW.mono hn6))).grown (by omega) gq (fun k e => by cases e; exact .inr (.inl rfl))).grown (by omega) gr8 (fun k e => by cases e; exact .inl rfl)
            have u5 := cell_row hA8.row (j := 5) (v := .int .i64 (((R.lits + l.length : Nat)) : Int)) rfl
            rw [Int.natCast_add] at u5
            have G0 := cell_row rr8 (j := 0) (v := .int .i64 (v : Int)) rfl
            have G1 := cell_row rr8 (j := 1) (v := .int .u8 (3 : Int)) rfl
            have G2 := cell_row rr8 (j := 2) (v := .slice A l.length c) rfl
            clear l1 l2 hW yd2 cd3
            by_cases hov : 200000 < R.lits + l.length
            · have HP := hid (show addL R no (.gate v 3 l) = (3, R) by
                rw [addL_gate, if_neg (by rw [HD.out]; simp), if_neg (by simpa using HAR.out), if_neg (by rw [Int.toNat_natCast, HS.out]; simp), if_pos hov])
              have hov2 : (200000 : Int) < (R.lits : Int) + (l.length : Int) := by omega
              clear hov
              go_wp2_with fail
              go_ret
              unfold AddPost
              rw [HP.out]
              exact ⟨rfl, hF8, fun h => absurd h (by simp)⟩
            · have hov2 : decide ((200000 : Int) < (R.lits : Int) + (l.length : Int)) = false := decide_eq_false (by omega)
              have HOV := hid hov
              clear hov
              have HP := hid (show addL R no (.gate v 3 l) = (0, { R with seen := upd R.seen v true, lits := R.lits + l.length, gates := R.gates ++ [⟨v, 3, l⟩], at_ := R.at_ ++ [no] }) by
                rw [addL_gate, if_neg (by rw [HD.out]; simp), if_neg (by simpa using HAR.out), if_neg (by rw [Int.toNat_natCast, HS.out]; simp), if_neg HOV.out, Int.toNat_natCast]
                try rfl)
              obtain ⟨n1, hn01, hn1L, hPre, hGA⟩ : ∃ n1, n0 ≤ n1 ∧ n1 ≤ wL.heap.size ∧ PreAt wL n0 n1 pv R.pre ∧ GA wL n1 gv av R.gates (R.outAt :: R.at_) := by
                rcases HPH.out with ⟨h0, _⟩ | ⟨_, n1, h1, h2, h3, h4⟩
                · rw [HD.out] at h0; cases h0
                · exact ⟨n1, h1, h2, h3, h4⟩
              have hLw1 : wL.heap.size ≤ w1.heap.size := hBL1.size
              have h16 := hBd5.size
              have hK8 : ∀ k, n0 ≤ k → k < wL.heap.size → w8.heap[k]? = wL.heap[k]? := fun k h1 h2 => by
                rw [gr8.block k (by omega) (by intro e; injection e with e; omega), gq.block k (by omega) (by intro e; injection e with e; omega), hBW.block k (by omega), hBd5.block k (by omega)]
                exact hBL1.block k h2
              have hGA8 := hGA.keep (w' := w8) (by omega) (fun k h1 h2 => hK8 k (by omega) h2)
              have hPre8 : PreAt w8 n0 n1 pv R.pre := hPre.keep (fun k h1 h2 => hK8 k h1 (by omega))
              have hl8 : w8.ownsRow wL.heap.size 3 1 (.slice A l.length c) l.length (nums l) := row_kept hl1 (fun k h1 h2 _ => by
                rw [gr8.block k (by omega) (by intro e; injection e with e; omega), gq.block k (by omega) (by intro e; injection e with e; omega), hBW.block k (by omega), hBd5.block k h2])
              have hglt : ∀ b, gv.ownBlock = some b → n1 ≤ b ∧ b < wL.heap.size := fun b e => by
                obtain ⟨ts, L, k1, k2, k3, k4, k5, k6⟩ := hGA
                exact k2.lt b e
              have halt : ∀ b, av.ownBlock = some b → n1 ≤ b ∧ b < wL.heap.size := fun b e => hGA.ats.lt b e
              obtain ⟨ts0, L0, t1, t2, t3, t4, t5, t6⟩ := hGA8
              obtain ⟨Ag, cg, rfl⟩ := own_shape t2
              obtain ⟨na, hna⟩ : ∃ na, (R.outAt :: R.at_).length = na := ⟨_, rfl⟩
              have t3' := t3
              rw [hna] at t3'
              obtain ⟨Aa, ca, rfl⟩ := own_shape t3'
              have HNA := hid hna
              have hnal : na ≤ 4194306 := by have h1 := HR.out.ok.gl; have h2 := HR.out.ok.al; simp only [List.length_cons] at hna; omega
              clear hna
              have hGA8' : GA w8 n1 (.slice Ag R.gates.length cg) (.slice Aa na ca) R.gates (R.outAt :: R.at_) := ⟨ts0, L0, t1, t2, t3, t4, t5, t6⟩
              have c1 : w8.drew.cell? ⟨r, 1, none⟩ = some (.slice Ag R.gates.length cg) := cell_row hA8.row (j := 1) rfl
              have hA9 : RwAt w8.drew r q pv (.slice Ag R.gates.length cg) (.slice Aa na ca) { R with seen := upd R.seen v true, lits := R.lits + l.length } := hA8.heap rfl rfl
              have hGA9 : GA w8.drew n1 (.slice Ag R.gates.length cg) (.slice Aa na ca) R.gates (R.outAt :: R.at_) := hGA8'.keep (Nat.le_refl _) (fun _ _ _ => rfl)
              have hPre9 : PreAt w8.drew n0 n1 pv R.pre := hPre8.keep (fun _ _ _ => rfl)
              have hl9 : w8.drew.ownsRow wL.heap.size 3 1 (.slice A l.length c) l.length (nums l) := hl8
              have t39 : w8.drew.ownsRow n1 3 1 (.slice Aa na ca) na (nums (natI (R.outAt :: R.at_))) := t3'
              have t29 : w8.drew.ownsRow n1 88 3 (.slice Ag R.gates.length cg) R.gates.length (gcells ts0) := t2
              have hS9 : (fun W => W.cell? ⟨gb, 0, none⟩ = some (.int .i64 (v : Int)) ∧ W.cell? ⟨gb, 1, none⟩ = some (.int .u8 (3 : Int)) ∧ W.cell? ⟨gb, 2, none⟩ = some (.slice A l.length c)) w8.drew := ⟨G0, G1, G2⟩
              have hF9 : Fr2 n0 r q w w8.drew := hF8.trans ⟨rfl, rfl, rfl, Nat.le_refl _, fun _ _ _ _ => rfl⟩
              have hn9 : wL.heap.size ≤ w8.drew.heap.size := by show _ ≤ w8.heap.size; omega
              have hgb9 : gb < w8.drew.heap.size := row_lt rr8
              have hgL : R.gates.length ≤ 4194305 := by have := HR.out.ok.gl; omega
              have haL : R.at_.length = R.gates.length := HR.out.ok.al
              go_wp2_with fail
              refine wp_region_held_drew (S := (fun W => W.cell? ⟨gb, 0, none⟩ = some (.int .i64 (v : Int)) ∧ W.cell? ⟨gb, 1, none⟩ = some (.int .u8 (3 : Int)) ∧ W.cell? ⟨gb, 2, none⟩ = some (.slice A l.length c))) (by kernel_rfl) hS9 (fun hHeld => ?_)
              clear c5 f5 u5 G0 G1 G2 rr8 hA8 hGA8' hPre8 hl8 t2 t3 t3' t4 t5 t6 hK8 gr8
              generalize w8.drew = v0 at *
              have hSB : Hid (∀ W, Below v0.heap.size v0 W → (fun W => W.cell? ⟨gb, 0, none⟩ = some (.int .i64 (v : Int)) ∧ W.cell? ⟨gb, 1, none⟩ = some (.int .u8 (3 : Int)) ∧ W.cell? ⟨gb, 2, none⟩ = some (.slice A l.length c)) W) := hid (fun W hW => ⟨keeps_below hW _ _ hS9.1, keeps_below hW _ _ hS9.2.1, keeps_below hW _ _ hS9.2.2⟩)
              have hAl2 : Hid (∀ W : World, ∃ w2, W.alloc (.cells #[.int .i64 (v : Int), .int .u8 (3 : Int), .slice A l.length c] 88) = w2 ∧ Below W.heap.size W w2 ∧ w2.heap.size = W.heap.size + 1 ∧ w2.heap[W.heap.size]? = some (.cells #[.int .i64 (v : Int), .int .u8 (3 : Int), .slice A l.length c] 88 (0, 0))) := hid (fun W => by
                obtain ⟨w1, hw1, -, -, hz1, hB1, q1⟩ := new_block W #[.int .i64 (v : Int), .int .u8 (3 : Int), .slice A l.length c] 88
                exact ⟨w1, hw1, hB1, hz1, q1⟩)
              refine wpAnyH_take (i := 0) (v := ?vn9) rfl (by kernel_rfl) (by kernel_rfl) (by kernel_rfl) (fun _ _ _ h => h) (Or.inl ⟨by rfl, ?yn9⟩) hHeld ?_
              case yn9 => (intro w' hSw; (try dsimp only at hSw); go_simp); (try with_reducible rfl)
              try simp only [Act.put, List.setIfInBounds_toArray, List.set_cons_zero, List.set_cons_succ]
              refine wpAnyH_take (i := 1) (v := ?vn10) rfl (by kernel_rfl) (by kernel_rfl) (by kernel_rfl) (fun _ _ _ h => h) (Or.inl ⟨by rfl, ?yn10⟩) hHeld ?_
              case yn10 => (intro w' hSw; (try dsimp only at hSw); go_simp); (try with_reducible rfl)
              try simp only [Act.put, List.setIfInBounds_toArray, List.set_cons_zero, List.set_cons_succ]
              refine wpAnyH_take (i := 2) (v := ?vn11) rfl (by kernel_rfl) (by kernel_rfl) (by kernel_rfl) (fun _ _ _ h => h) (Or.inl ⟨by rfl, ?yn11⟩) hHeld ?_
              case yn11 => (intro w' hSw; (try dsimp only at hSw); go_simp); (try with_reducible rfl)
              try simp only [Act.put, List.setIfInBounds_toArray, List.set_cons_zero, List.set_cons_succ]
              refine wpAnyH_take (i := 3) (v := ?vn12) rfl (by kernel_rfl) (by kernel_rfl) (by kernel_rfl) (fun _ _ _ h => h) (Or.inl ⟨by rfl, ?yn12⟩) hHeld ?_
              case yn12 => (intro w' hSw; (try dsimp only at hSw); go_simp); (try with_reducible rfl)
              try simp only [Act.put, List.setIfInBounds_toArray, List.set_cons_zero, List.set_cons_succ]
              refine wpAnyH_take (i := 4) (v := ?vn13) rfl (by kernel_rfl) (by kernel_rfl) (by kernel_rfl) (fun _ _ _ h => h) (Or.inl ⟨by rfl, ?yn13⟩) hHeld ?_
              case yn13 => (intro w' hSw; (try dsimp only at hSw); go_simp); (try with_reducible rfl)
              try simp only [Act.put, List.setIfInBounds_toArray, List.set_cons_zero, List.set_cons_succ]
              refine wpAnyH_take (i := 6) (v := ?vn14) rfl (by kernel_rfl) (by kernel_rfl) (by kernel_rfl) (fun _ _ _ h => h) (Or.inl ⟨by rfl, ?yn14⟩) hHeld ?_
              case yn14 => (intro w' hSw; (try dsimp only at hSw); go_simp); (try with_reducible rfl)
              try simp only [Act.put, List.setIfInBounds_toArray, List.set_cons_zero, List.set_cons_succ]
              refine wpAnyH_ready (rs := [5,7]) (by kernel_rfl) (by simp) ?_
              refine AllReadyH.cons rfl (fun Kc hKc => ?_) (AllReadyH.cons rfl (fun Kc hKc => ?_) AllReadyH.nil)
              · skip
                go_simp
                refine hKc.out _ _ hS9 (fun hHeld => ?_)
                clear hKc Kc
                try simp only [Act.put, List.setIfInBounds_toArray, List.set_cons_zero, List.set_cons_succ]
                refine wpAnyH_ready (rs := [7]) (by kernel_rfl) (by simp) ?_
                refine AllReadyH.cons rfl (fun Kc hKc => ?_) AllReadyH.nil
                obtain ⟨v1, hv1, hBa, hza, qa⟩ := hAl2.out v0
                go_simp
                refine hKc.out _ _ (hSB.out v1 hBa) (fun hHeld => ?_)
                clear hKc Kc
                try simp only [Act.put, List.setIfInBounds_toArray, List.set_cons_zero, List.set_cons_succ]
                have gA := hGA9.keep hBa.size (fun k _ h => hBa.block k h)
                have own1 := t29.kept (grown_of_below hBa none) (by cases (Value.slice Ag R.gates.length cg).ownBlock <;> simp)
                have hA10 := hA9.below hBa
                have hSv1 := hSB.out v1 hBa
                have hl10 := hl9.kept (grown_of_below hBa none) (by cases (Value.slice A l.length c).ownBlock <;> simp)
                have t40 := t39.kept (grown_of_below hBa none) (by cases (Value.slice Aa na ca).ownBlock <;> simp)
                have hPre10 : PreAt v1 n0 n1 pv R.pre := hPre9.keep (fun k h1 h2 => hBa.block k (by omega))
                refine wpAnyH_ready (rs := [8]) (by kernel_rfl) (by simp) ?_
                refine AllReadyH.cons rfl (fun Kc hKc => ?_) AllReadyH.nil
                obtain ⟨i0, hi0, hzz⟩ := Option.map_eq_some_iff.1 info70
                simp only [Prod.mk.injEq] at hzz
                obtain ⟨hz0', hz1', hz2'⟩ := hzz
                refine step_append_lies (w := v1) (by rfl) _ _ 38 (by rfl) n1 88 i0 (.agg #[.int .i64 0, .int .u8 0, .slice none 0 0]) 3 40 Tryz.underlying38 hi0 hz0' hz1' hz2' rfl (by decide) (.slice Ag R.gates.length cg) R.gates.length (gcells ts0) (by rfl) own1 ⟨v0.heap.size, 0, none⟩ 1 1 [.int .i64 (v : Int), .int .u8 (3 : Int), .slice A l.length c] (by rfl) rfl (World.news_of_block qa) (by intro u hu; simp at hu; rcases hu with rfl | rfl | rfl <;> rfl) (by decide) (by simp only [maxLen]; omega) (by omega) (by omega) v1.heap.size rfl ?_
                intro g9 cap9 v2 hO9 hG9 hb9 hlt9
                have A11 := hA10.grown hG9 (fun e => by have := (hglt r e).1; omega) (fun e => by have := (hglt q e).1; omega)
                have hgbg : (Value.slice Ag R.gates.length cg).ownBlock ≠ some gb := fun e => by have := (hglt gb e).2; omega
                have hSv2 := And.intro (hG9.cell hSv1.1 (fun e => hgbg e.symm)) (And.intro (hG9.cell hSv1.2.1 (fun e => hgbg e.symm)) (hG9.cell hSv1.2.2 (fun e => hgbg e.symm)))
                refine hKc.out _ _ hSv2 (fun hHeld => ?_)
                clear hKc Kc
                try simp only [Act.put, List.setIfInBounds_toArray, List.set_cons_zero, List.set_cons_succ]
                refine wpAnyH_take (i := 9) (v := ?vn15) rfl (by kernel_rfl) (by kernel_rfl) (by kernel_rfl) (fun _ _ _ h => h) (Or.inl ⟨by rfl, ?yn15⟩) hHeld ?_
                case yn15 => (intro w' hSw; (try dsimp only at hSw); go_simp); (try with_reducible rfl)
                try simp only [Act.put, List.setIfInBounds_toArray, List.set_cons_zero, List.set_cons_succ]
                refine wpAnyH_take (i := 10) (v := ?vn16) rfl (by kernel_rfl) (by kernel_rfl) (by kernel_rfl) (fun _ _ _ h => h) (Or.inl ⟨by rfl, ?yn16⟩) hHeld ?_
                case yn16 => (intro w' hSw; (try dsimp only at hSw); go_simp); (try with_reducible rfl)
                try simp only [Act.put, List.setIfInBounds_toArray, List.set_cons_zero, List.set_cons_succ]
                refine wpAnyH_take (i := 11) (v := ?vn17) rfl (by kernel_rfl) (by kernel_rfl) (by kernel_rfl) (fun _ _ _ h => h) (Or.inl ⟨by rfl, ?yn17⟩) hHeld ?_
                case yn17 => (intro w' hSw; (try dsimp only at hSw); go_simp); (try with_reducible rfl)
                try simp only [Act.put, List.setIfInBounds_toArray, List.set_cons_zero, List.set_cons_succ]
                have k1 := cell_row A11.row (j := 1) (v := .slice Ag R.gates.length cg) rfl
                have kf1 := frozen_of_row _ _ 1 _ _ A11.row
                have g12 : v2.grownBy (v2.setCell ⟨r, 1, none⟩ (.slice (some ⟨g9, 0, none⟩) (R.gates.length + 1) cap9)) (some r) := grown_setCell v2 ⟨r, 1, none⟩ _
                have A12 : RwAt (v2.setCell ⟨r, 1, none⟩ (.slice (some ⟨g9, 0, none⟩) (R.gates.length + 1) cap9)) r q pv (.slice (some ⟨g9, 0, none⟩) (R.gates.length + 1) cap9) (.slice Aa na ca) { R with seen := upd R.seen v true, lits := R.lits + l.length, gates := R.gates ++ [⟨(v : Int), (3 : Int), l⟩] } := A11.put 1 _ rfl rfl
                have hSv3 := And.intro (g12.cell hSv2.1 (by intro e; injection e with e; exact hgbr e)) (And.intro (g12.cell hSv2.2.1 (by intro e; injection e with e; exact hgbr e)) (g12.cell hSv2.2.2 (by intro e; injection e with e; exact hgbr e)))
                refine wpAnyH_ready (rs := [12]) (by kernel_rfl) (by simp) ?_
                refine AllReadyH.cons rfl (fun Kc hKc => ?_) AllReadyH.nil
                go_simp
                refine hKc.out _ _ hSv3 (fun hHeld => ?_)
                clear hKc Kc
                try simp only [Act.put, List.setIfInBounds_toArray, List.set_cons_zero, List.set_cons_succ]
                refine wpAnyH_done (by kernel_rfl) ?_ _
                have gB := GA.pushG (n := wL.heap.size) (x := ⟨(v : Int), (3 : Int), l⟩) (w1 := v2) gA ⟨by unfold I64; simp only []; omega, by simp only []; omega, by simp only []; omega⟩ (ints_of_own hl10 (fun y hy => by have := hx y hy; unfold I64; omega) (by omega)) (fun b e => hl10.lt b e) hn1L (fun b e => (hglt b e).2) (fun b e => (halt b e).2) (fun xs' h' => by rw [own_unique h' own1]; exact hO9) hG9 (fun b e => by cases e; exact hb9.imp id (fun e => Nat.le_of_eq e.symm))
                have gC := gB.keep g12.size (fun k h1 h2 => g12.block k h2 (by intro e; injection e with e; omega))
                have tC := gC.ats
                rw [HNA.out] at tC
                have hv3s : wL.heap.size ≤ (v2.setCell ⟨r, 1, none⟩ (.slice (some ⟨g9, 0, none⟩) (R.gates.length + 1) cap9)).heap.size := by have := g12.size; have := hG9.size; omega
                have hF12 : Fr2 n0 r q w (v2.setCell ⟨r, 1, none⟩ (.slice (some ⟨g9, 0, none⟩) (R.gates.length + 1) cap9)) := (((hF9.trans (Fr2.below (hBa.mono (by omega)))).grown (by omega) hG9 (fun k e => .inr (.inr (by have := (hglt k e).1; omega))))).grown (by have := hG9.size; omega) g12 (fun k e => by cases e; exact .inl rfl)
                have hPre12 : PreAt (v2.setCell ⟨r, 1, none⟩ (.slice (some ⟨g9, 0, none⟩) (R.gates.length + 1) cap9)) n0 n1 pv R.pre := hPre10.keep (fun k h1 h2 => (g12.block k (by have := hG9.size; omega) (by intro e; injection e with e; omega)).trans (hG9.block k (by omega) (fun e => by have := (hglt k e.symm).1; omega)))
                clear hHeld hSv1 hSv2 hSv3 k1 kf1
                generalize v2.setCell ⟨r, 1, none⟩ (.slice (some ⟨g9, 0, none⟩) (R.gates.length + 1) cap9) = v3 at *
                have k7 := cell_row A12.row (j := 7) (v := .slice Aa na ca) rfl
                have HX7 : Hid (∀ v5, v3.grownBy v5 (Value.slice Aa na ca).ownBlock → RwAt v5 r q pv (.slice (some ⟨g9, 0, none⟩) (R.gates.length + 1) cap9) (.slice Aa na ca) { R with seen := upd R.seen v true, lits := R.lits + l.length, gates := R.gates ++ [⟨(v : Int), (3 : Int), l⟩] } ∧ v5.cell? ⟨r, 7, none⟩ = some (.slice Aa na ca) ∧ v5.frozen? ⟨r, 7, none⟩ = false) := hid (fun v5 hG => by
                  have A13 := A12.grown hG (fun e => by have := (halt r e).1; omega) (fun e => by have := (halt q e).1; omega)
                  exact ⟨A13, cell_row A13.row (j := 7) rfl, frozen_of_row _ _ 7 _ _ A13.row⟩)
                have hn13 : n1 ≤ v3.heap.size := by omega
                have hb88 : (na + 1) * 8 ≤ 140737488355328 := by omega
                have HGC := hid gC
                have HPR := hid hPre12
                clear gA gB gC hGA9 hA9 hA10 A11 hl9 hl10 t29 t39 t40 own1 hPre9 hPre10 hPre12 c1
                go_wp2_with (first | (at_builtin; refine append_one n1 rfl _ _ 48 3 (.int .i64 0) 1 8 rfl Tryz.underlying48 info3 rfl (by decide) (by decide) (.slice Aa na ca) na (nums (natI (R.outAt :: R.at_))) #[.int .i64 (no : Int)] rfl rfl rfl (by intro u hu; simp at hu; subst hu; rfl) tC hn13 hb88 ?_; intro ga cap4 v5 hO5 hG5 hg5 hb5 hlt5; obtain ⟨A13, c7, f7⟩ := HX7.out v5 hG5) | fail)
                go_ret
                unfold AddPost
                rw [HP.out]
                have g14 : v5.grownBy (v5.setCell ⟨r, 7, none⟩ (.slice (some ⟨ga, 0, none⟩) (na + 1) cap4)) (some r) := grown_setCell v5 ⟨r, 7, none⟩ _
                have A14 : RwAt (v5.setCell ⟨r, 7, none⟩ (.slice (some ⟨ga, 0, none⟩) (na + 1) cap4)) r q pv (.slice (some ⟨g9, 0, none⟩) (R.gates.length + 1) cap9) (.slice (some ⟨ga, 0, none⟩) (na + 1) cap4) { R with seen := upd R.seen v true, lits := R.lits + l.length, gates := R.gates ++ [⟨(v : Int), (3 : Int), l⟩], at_ := R.at_ ++ [no] } := A13.put 7 _ rfl rfl
                have hk := HR.out.ok
                have gD := GA.pushA (w1 := v5) (av1 := .slice (some ⟨ga, 0, none⟩) (na + 1) cap4) no HGC.out (by rw [HNA.out]; exact hO5) hG5 (fun b e => by cases e; exact hg5)
                have h5s := hG5.size
                have h14s := g14.size
                refine ⟨rfl, (hF12.grown (by omega) hG5 (fun k e => .inr (.inr (by have := (halt k e).1; omega)))).grown (by omega) g14 (fun k e => by cases e; exact .inl rfl), fun _ => ⟨hrn, hqn, by omega, ⟨hk.vars, hk.nv, by have := HOV.out; simp only []; omega, hk.pre, Nat.le_succ_of_le hk.prel, ?_, ?_, ?_, hk.out⟩, _, _, _, A14, .inr ⟨HD.out, n1, hn01, by omega, ?_, ?_⟩⟩⟩
                · have := hk.gl; simp only [List.length_append, List.length_cons, List.length_nil]; omega
                · have := hk.al; simp only [List.length_append, List.length_cons, List.length_nil]; omega
                · intro g hg
                  rcases List.mem_append.1 hg with hg | hg
                  · exact hk.gs g hg
                  · rw [List.mem_singleton.1 hg]
                    exact ⟨⟨by simp only []; omega, by simp only []; omega⟩, ⟨by simp only []; omega, by simp only []; omega⟩, hx⟩
                · exact HPR.out.keep (fun k h1 h2 => (g14.block k (by omega) (by intro e; injection e with e; omega)).trans (hG5.block k (by omega) (fun e => by have := (halt k e.symm).1; omega)))
                · exact gD.keep g14.size (fun k h1 h2 => g14.block k h2 (by intro e; injection e with e; omega))
              · skip
                obtain ⟨v1, hv1, hBa, hza, qa⟩ := hAl2.out v0
                go_simp
                refine hKc.out _ _ (hSB.out v1 hBa) (fun hHeld => ?_)
                clear hKc Kc
                try simp only [Act.put, List.setIfInBounds_toArray, List.set_cons_zero, List.set_cons_succ]
                have c1v := keeps_below hBa _ _ c1
                refine wpAnyH_ready (rs := [5]) (by kernel_rfl) (by simp) ?_
                refine AllReadyH.cons rfl (fun Kc hKc => ?_) AllReadyH.nil
                go_simp
                refine hKc.out _ _ (hSB.out v1 hBa) (fun hHeld => ?_)
                clear hKc Kc
                try simp only [Act.put, List.setIfInBounds_toArray, List.set_cons_zero, List.set_cons_succ]
                have gA := hGA9.keep hBa.size (fun k _ h => hBa.block k h)
                have own1 := t29.kept (grown_of_below hBa none) (by cases (Value.slice Ag R.gates.length cg).ownBlock <;> simp)
                have hA10 := hA9.below hBa
                have hSv1 := hSB.out v1 hBa
                have hl10 := hl9.kept (grown_of_below hBa none) (by cases (Value.slice A l.length c).ownBlock <;> simp)
                have t40 := t39.kept (grown_of_below hBa none) (by cases (Value.slice Aa na ca).ownBlock <;> simp)
                have hPre10 : PreAt v1 n0 n1 pv R.pre := hPre9.keep (fun k h1 h2 => hBa.block k (by omega))
                refine wpAnyH_ready (rs := [8]) (by kernel_rfl) (by simp) ?_
                refine AllReadyH.cons rfl (fun Kc hKc => ?_) AllReadyH.nil
                obtain ⟨i0, hi0, hzz⟩ := Option.map_eq_some_iff.1 info70
                simp only [Prod.mk.injEq] at hzz
                obtain ⟨hz0', hz1', hz2'⟩ := hzz
                refine step_append_lies (w := v1) (by rfl) _ _ 38 (by rfl) n1 88 i0 (.agg #[.int .i64 0, .int .u8 0, .slice none 0 0]) 3 40 Tryz.underlying38 hi0 hz0' hz1' hz2' rfl (by decide) (.slice Ag R.gates.length cg) R.gates.length (gcells ts0) (by rfl) own1 ⟨v0.heap.size, 0, none⟩ 1 1 [.int .i64 (v : Int), .int .u8 (3 : Int), .slice A l.length c] (by rfl) rfl (World.news_of_block qa) (by intro u hu; simp at hu; rcases hu with rfl | rfl | rfl <;> rfl) (by decide) (by simp only [maxLen]; omega) (by omega) (by omega) v1.heap.size rfl ?_
                intro g9 cap9 v2 hO9 hG9 hb9 hlt9
                have A11 := hA10.grown hG9 (fun e => by have := (hglt r e).1; omega) (fun e => by have := (hglt q e).1; omega)
                have hgbg : (Value.slice Ag R.gates.length cg).ownBlock ≠ some gb := fun e => by have := (hglt gb e).2; omega
                have hSv2 := And.intro (hG9.cell hSv1.1 (fun e => hgbg e.symm)) (And.intro (hG9.cell hSv1.2.1 (fun e => hgbg e.symm)) (hG9.cell hSv1.2.2 (fun e => hgbg e.symm)))
                refine hKc.out _ _ hSv2 (fun hHeld => ?_)
                clear hKc Kc
                try simp only [Act.put, List.setIfInBounds_toArray, List.set_cons_zero, List.set_cons_succ]
                refine wpAnyH_take (i := 9) (v := ?vn18) rfl (by kernel_rfl) (by kernel_rfl) (by kernel_rfl) (fun _ _ _ h => h) (Or.inl ⟨by rfl, ?yn18⟩) hHeld ?_
                case yn18 => (intro w' hSw; (try dsimp only at hSw); go_simp); (try with_reducible rfl)
                try simp only [Act.put, List.setIfInBounds_toArray, List.set_cons_zero, List.set_cons_succ]
                refine wpAnyH_take (i := 10) (v := ?vn19) rfl (by kernel_rfl) (by kernel_rfl) (by kernel_rfl) (fun _ _ _ h => h) (Or.inl ⟨by rfl, ?yn19⟩) hHeld ?_
                case yn19 => (intro w' hSw; (try dsimp only at hSw); go_simp); (try with_reducible rfl)
                try simp only [Act.put, List.setIfInBounds_toArray, List.set_cons_zero, List.set_cons_succ]
                refine wpAnyH_take (i := 11) (v := ?vn20) rfl (by kernel_rfl) (by kernel_rfl) (by kernel_rfl) (fun _ _ _ h => h) (Or.inl ⟨by rfl, ?yn20⟩) hHeld ?_
                case yn20 => (intro w' hSw; (try dsimp only at hSw); go_simp); (try with_reducible rfl)
                try simp only [Act.put, List.setIfInBounds_toArray, List.set_cons_zero, List.set_cons_succ]
                have k1 := cell_row A11.row (j := 1) (v := .slice Ag R.gates.length cg) rfl
                have kf1 := frozen_of_row _ _ 1 _ _ A11.row
                have g12 : v2.grownBy (v2.setCell ⟨r, 1, none⟩ (.slice (some ⟨g9, 0, none⟩) (R.gates.length + 1) cap9)) (some r) := grown_setCell v2 ⟨r, 1, none⟩ _
                have A12 : RwAt (v2.setCell ⟨r, 1, none⟩ (.slice (some ⟨g9, 0, none⟩) (R.gates.length + 1) cap9)) r q pv (.slice (some ⟨g9, 0, none⟩) (R.gates.length + 1) cap9) (.slice Aa na ca) { R with seen := upd R.seen v true, lits := R.lits + l.length, gates := R.gates ++ [⟨(v : Int), (3 : Int), l⟩] } := A11.put 1 _ rfl rfl
                have hSv3 := And.intro (g12.cell hSv2.1 (by intro e; injection e with e; exact hgbr e)) (And.intro (g12.cell hSv2.2.1 (by intro e; injection e with e; exact hgbr e)) (g12.cell hSv2.2.2 (by intro e; injection e with e; exact hgbr e)))
                refine wpAnyH_ready (rs := [12]) (by kernel_rfl) (by simp) ?_
                refine AllReadyH.cons rfl (fun Kc hKc => ?_) AllReadyH.nil
                go_simp
                refine hKc.out _ _ hSv3 (fun hHeld => ?_)
                clear hKc Kc
                try simp only [Act.put, List.setIfInBounds_toArray, List.set_cons_zero, List.set_cons_succ]
                refine wpAnyH_done (by kernel_rfl) ?_ _
                have gB := GA.pushG (n := wL.heap.size) (x := ⟨(v : Int), (3 : Int), l⟩) (w1 := v2) gA ⟨by unfold I64; simp only []; omega, by simp only []; omega, by simp only []; omega⟩ (ints_of_own hl10 (fun y hy => by have := hx y hy; unfold I64; omega) (by omega)) (fun b e => hl10.lt b e) hn1L (fun b e => (hglt b e).2) (fun b e => (halt b e).2) (fun xs' h' => by rw [own_unique h' own1]; exact hO9) hG9 (fun b e => by cases e; exact hb9.imp id (fun e => Nat.le_of_eq e.symm))
                have gC := gB.keep g12.size (fun k h1 h2 => g12.block k h2 (by intro e; injection e with e; omega))
                have tC := gC.ats
                rw [HNA.out] at tC
                have hv3s : wL.heap.size ≤ (v2.setCell ⟨r, 1, none⟩ (.slice (some ⟨g9, 0, none⟩) (R.gates.length + 1) cap9)).heap.size := by have := g12.size; have := hG9.size; omega
                have hF12 : Fr2 n0 r q w (v2.setCell ⟨r, 1, none⟩ (.slice (some ⟨g9, 0, none⟩) (R.gates.length + 1) cap9)) := (((hF9.trans (Fr2.below (hBa.mono (by omega)))).grown (by omega) hG9 (fun k e => .inr (.inr (by have := (hglt k e).1; omega))))).grown (by have := hG9.size; omega) g12 (fun k e => by cases e; exact .inl rfl)
                have hPre12 : PreAt (v2.setCell ⟨r, 1, none⟩ (.slice (some ⟨g9, 0, none⟩) (R.gates.length + 1) cap9)) n0 n1 pv R.pre := hPre10.keep (fun k h1 h2 => (g12.block k (by have := hG9.size; omega) (by intro e; injection e with e; omega)).trans (hG9.block k (by omega) (fun e => by have := (hglt k e.symm).1; omega)))
                clear hHeld hSv1 hSv2 hSv3 k1 kf1
                generalize v2.setCell ⟨r, 1, none⟩ (.slice (some ⟨g9, 0, none⟩) (R.gates.length + 1) cap9) = v3 at *
                have k7 := cell_row A12.row (j := 7) (v := .slice Aa na ca) rfl
                have HX7 : Hid (∀ v5, v3.grownBy v5 (Value.slice Aa na ca).ownBlock → RwAt v5 r q pv (.slice (some ⟨g9, 0, none⟩) (R.gates.length + 1) cap9) (.slice Aa na ca) { R with seen := upd R.seen v true, lits := R.lits + l.length, gates := R.gates ++ [⟨(v : Int), (3 : Int), l⟩] } ∧ v5.cell? ⟨r, 7, none⟩ = some (.slice Aa na ca) ∧ v5.frozen? ⟨r, 7, none⟩ = false) := hid (fun v5 hG => by
                  have A13 := A12.grown hG (fun e => by have := (halt r e).1; omega) (fun e => by have := (halt q e).1; omega)
                  exact ⟨A13, cell_row A13.row (j := 7) rfl, frozen_of_row _ _ 7 _ _ A13.row⟩)
                have hn13 : n1 ≤ v3.heap.size := by omega
                have hb88 : (na + 1) * 8 ≤ 140737488355328 := by omega
                have HGC := hid gC
                have HPR := hid hPre12
                clear gA gB gC hGA9 hA9 hA10 A11 hl9 hl10 t29 t39 t40 own1 hPre9 hPre10 hPre12 c1
                go_wp2_with (first | (at_builtin; refine append_one n1 rfl _ _ 48 3 (.int .i64 0) 1 8 rfl Tryz.underlying48 info3 rfl (by decide) (by decide) (.slice Aa na ca) na (nums (natI (R.outAt :: R.at_))) #[.int .i64 (no : Int)] rfl rfl rfl (by intro u hu; simp at hu; subst hu; rfl) tC hn13 hb88 ?_; intro ga cap4 v5 hO5 hG5 hg5 hb5 hlt5; obtain ⟨A13, c7, f7⟩ := HX7.out v5 hG5) | fail)
                go_ret
                unfold AddPost
                rw [HP.out]
                have g14 : v5.grownBy (v5.setCell ⟨r, 7, none⟩ (.slice (some ⟨ga, 0, none⟩) (na + 1) cap4)) (some r) := grown_setCell v5 ⟨r, 7, none⟩ _
                have A14 : RwAt (v5.setCell ⟨r, 7, none⟩ (.slice (some ⟨ga, 0, none⟩) (na + 1) cap4)) r q pv (.slice (some ⟨g9, 0, none⟩) (R.gates.length + 1) cap9) (.slice (some ⟨ga, 0, none⟩) (na + 1) cap4) { R with seen := upd R.seen v true, lits := R.lits + l.length, gates := R.gates ++ [⟨(v : Int), (3 : Int), l⟩], at_ := R.at_ ++ [no] } := A13.put 7 _ rfl rfl
                have hk := HR.out.ok
                have gD := GA.pushA (w1 := v5) (av1 := .slice (some ⟨ga, 0, none⟩) (na + 1) cap4) no HGC.out (by rw [HNA.out]; exact hO5) hG5 (fun b e => by cases e; exact hg5)
                have h5s := hG5.size
                have h14s := g14.size
                refine ⟨rfl, (hF12.grown (by omega) hG5 (fun k e => .inr (.inr (by have := (halt k e).1; omega)))).grown (by omega) g14 (fun k e => by cases e; exact .inl rfl), fun _ => ⟨hrn, hqn, by omega, ⟨hk.vars, hk.nv, by have := HOV.out; simp only []; omega, hk.pre, Nat.le_succ_of_le hk.prel, ?_, ?_, ?_, hk.out⟩, _, _, _, A14, .inr ⟨HD.out, n1, hn01, by omega, ?_, ?_⟩⟩⟩
                · have := hk.gl; simp only [List.length_append, List.length_cons, List.length_nil]; omega
                · have := hk.al; simp only [List.length_append, List.length_cons, List.length_nil]; omega
                · intro g hg
                  rcases List.mem_append.1 hg with hg | hg
                  · exact hk.gs g hg
                  · rw [List.mem_singleton.1 hg]
                    exact ⟨⟨by simp only []; omega, by simp only []; omega⟩, ⟨by simp only []; omega, by simp only []; omega⟩, hx⟩
                · exact HPR.out.keep (fun k h1 h2 => (g14.block k (by omega) (by intro e; injection e with e; omega)).trans (hG5.block k (by omega) (fun e => by have := (halt k e.symm).1; omega)))
                · exact gD.keep g14.size (fun k h1 h2 => g14.block k h2 (by intro e; injection e with e; omega))
        · have hz2 : ((l.length : Int) != 2) = true := bne_iff_ne.2 (by omega)
          have HP := hid (show addL R no (.gate v 3 l) = (2, R) by
            rw [addL_gate, if_neg (by rw [HD.out]; simp), if_pos (.inl ⟨rfl, hn2⟩)])
          clear hn2
          go_wp2_with fail
          go_ret
          unfold AddPost
          rw [HP.out]
          exact ⟨rfl, hF1.trans (Fr2.below (hB5.mono hn1)), fun h => absurd h (by simp)⟩
      · have hz3 : ((kd : Int) == 3) = false := beq_eq_false_iff_ne.2 (by omega)
        by_cases h4 : kd = 4
        · subst h4
          by_cases hn3 : l.length = 3
          · have hz2 : ((l.length : Int) != 3) = false := bne_eq_false_iff_eq.2 (by omega)
            have HAR : Hid (¬ ((4 = 3 ∧ l.length ≠ 2) ∨ (4 = 4 ∧ l.length ≠ 3))) := hid (by omega)
            clear hn3
            go_wp2_with fail
            have hA5 := hA1.below hB5
            have hF5 := hF1.trans (Fr2.below (hB5.mono hn1))
            have y1 := keeps_below hB5 _ _ z1
            have y2 := keeps_below hB5 _ _ z2
            have c3 := cell_row hA5.row (j := 3) (v := .slice (some ⟨q, 0, none⟩) 65537 65537) rfl
            have cs := hA5.seen.cell v (by omega)
            have hgbr : gb ≠ r := by omega
            have hgbq : gb ≠ q := by omega
            cases hS : R.seen v with
            | true =>
              rw [hS] at cs
              have HP := hid (show addL R no (.gate v 4 l) = (7, R) by
                rw [addL_gate, if_neg (by rw [HD.out]; simp), if_neg (by simpa using HAR.out), if_pos (by rw [Int.toNat_natCast]; exact hS)])
              clear hS
              go_wp2_with fail
              go_quiet (fail)
              go_wp2_with fail
              go_ret
              unfold AddPost
              rw [HP.out]
              exact ⟨rfl, hF5.trans (Fr2.below (below_drewN (Below.refl _ _) _)), fun h => absurd h (by simp)⟩
            | false =>
              rw [hS] at cs
              have HS := hid hS
              clear hS
              go_wp2_with fail
              go_quiet (fail)
              go_wp2_with fail
              have hAd : RwAt (w5.drewN nq) r q pv gv av R := hA5.heap rfl rfl
              have hBd5 : Below w1.heap.size w1 (w5.drewN nq) := below_drewN hB5 _
              have yd2 : (w5.drewN nq).cell? ⟨w.heap.size, 2, none⟩ = some (.int .i64 (v : Int)) := y2
              have cd3 : (w5.drewN nq).cell? ⟨r, 3, none⟩ = some (.slice (some ⟨q, 0, none⟩) 65537 65537) := c3
              have rrd : (w5.drewN nq).heap[gb]? = some (.cells #[.int .i64 (v : Int), .int .u8 (4 : Int), .slice A l.length c] 88 (0, 0)) := rr
              have hFd : Fr2 n0 r q w (w5.drewN nq) := hF5.trans (Fr2.below (below_drewN (Below.refl _ _) _))
              clear cs y1 y2 c3 g0 g1 g2 rr hA5 hB5 hF5
              generalize w5.drewN nq = w6 at *
              have l1 := fun p => cell_since yd2 p
              have l2 := fun p => cell_since cd3 p
              refine region_tail 7 (by kernel_rfl) (by kernel_rfl) ?_
              simp only [List.take_succ_cons, List.take_zero, List.drop_succ_cons, List.drop_zero]
              repeat (first | go_big_quiet_step (fail) | quiet_step (fail))
              refine wpQuiet_nil ?_
              rintro W ⟨pw, hW⟩
              have hBW : Below w6.heap.size w6 W := by rw [hW]; exact since_below w6 pw
              have hAW := hAd.below hBW
              have csW := hAW.seen.cell v (by omega)
              have cfW := hAW.seen.free v
              have hA7 : RwAt (W.setCell ⟨q, v, none⟩ (.bool true)) r q pv gv av { R with seen := upd R.seen v true } :=
                ⟨(heap_setCell_other W ⟨q, v, none⟩ r _ hAW.ne).trans hAW.row, hAW.seen.store v true, hAW.ne⟩
              have gq : W.grownBy (W.setCell ⟨q, v, none⟩ (.bool true)) (some q) := grown_setCell W ⟨q, v, none⟩ _
              obtain ⟨w7, hw7⟩ : ∃ w7, W.setCell ⟨q, v, none⟩ (.bool true) = w7 := ⟨_, rfl⟩
              rw [hw7] at hA7 gq
              have rr7 := row_grown (row_below rrd hBW) gq (by intro e; injection e with e; exact hgbq e.symm)
              have hlv : R.lits ≤ 200000 := HR.out.ok.lits
              have c5 := cell_row hA7.row (j := 5) (v := .int .i64 (R.lits : Int)) rfl
              have f5 := frozen_of_row _ _ 5 _ _ hA7.row
              have hwl : IntKind.i64.wrap ((R.lits : Int) + (l.length : Int)) = (R.lits : Int) + (l.length : Int) := IntWalk.i64_in _ (by omega)
              have hA8 : RwAt (w7.setCell ⟨r, 5, none⟩ (.int .i64 ((R.lits : Int) + (l.length : Int)))) r q pv gv av { R with seen := upd R.seen v true, lits := R.lits + l.length } := hA7.put 5 _ rfl (by simp [stg])
              have gr8 : w7.grownBy (w7.setCell ⟨r, 5, none⟩ (.int .i64 ((R.lits : Int) + (l.length : Int)))) (some r) := grown_setCell w7 ⟨r, 5, none⟩ _
              obtain ⟨w8, hw8⟩ : ∃ w8, w7.setCell ⟨r, 5, none⟩ (.int .i64 ((R.lits : Int) + (l.length : Int))) = w8 := ⟨_, rfl⟩
              rw [hw8] at hA8 gr8
              have rr8 := row_grown rr7 gr8 (by intro e; injection e with e; exact hgbr e.symm)
              have hFs := hFd.size
              have hBs := hBW.size
              have hgs := gq.size
              have h8s := gr8.size
              have hn6 : n0 ≤ w6.heap.size := by omega
              have hF8 := ((hFd.trans (Fr2.below (hBW.mono hn6))).grown (by omega) gq (fun k e => by cases e; exact .inr (.inl rfl))).grown (by omega) gr8 (fun k e => by cases e; exact .inl rfl)
              have u5 := cell_row hA8.row (j := 5) (v := .int .i64 (((R.lits + l.length : Nat)) : Int)) rfl
              rw [Int.natCast_add] at u5
              have G0 := cell_row rr8 (j := 0) (v := .int .i64 (v : Int)) rfl
              have G1 := cell_row rr8 (j := 1) (v := .int .u8 (4 : Int)) rfl
              have G2 := cell_row rr8 (j := 2) (v := .slice A l.length c) rfl
              clear l1 l2 hW yd2 cd3
              by_cases hov : 200000 < R.lits + l.length
              · have HP := hid (show addL R no (.gate v 4 l) = (3, R) by
                  rw [addL_gate, if_neg (by rw [HD.out]; simp), if_neg (by simpa using HAR.out), if_neg (by rw [Int.toNat_natCast, HS.out]; simp), if_pos hov])
                have hov2 : (200000 : Int) < (R.lits : Int) + (l.length : Int) := by omega
                clear hov
                go_wp2_with fail
                go_ret
                unfold AddPost
                rw [HP.out]
                exact ⟨rfl, hF8, fun h => absurd h (by simp)⟩
              · have hov2 : decide ((200000 : Int) < (R.lits : Int) + (l.length : Int)) = false := decide_eq_false (by omega)
                have HOV := hid hov
                clear hov
                have HP := hid (show addL R no (.gate v 4 l) = (0, { R with seen := upd R.seen v true, lits := R.lits + l.length, gates := R.gates ++ [⟨v, 4, l⟩], at_ := R.at_ ++ [no] }) by
                  rw [addL_gate, if_neg (by rw [HD.out]; simp), if_neg (by simpa using HAR.out), if_neg (by rw [Int.toNat_natCast, HS.out]; simp), if_neg HOV.out, Int.toNat_natCast]
                  try rfl)
                obtain ⟨n1, hn01, hn1L, hPre, hGA⟩ : ∃ n1, n0 ≤ n1 ∧ n1 ≤ wL.heap.size ∧ PreAt wL n0 n1 pv R.pre ∧ GA wL n1 gv av R.gates (R.outAt :: R.at_) := by
                  rcases HPH.out with ⟨h0, _⟩ | ⟨_, n1, h1, h2, h3, h4⟩
                  · rw [HD.out] at h0; cases h0
                  · exact ⟨n1, h1, h2, h3, h4⟩
                have hLw1 : wL.heap.size ≤ w1.heap.size := hBL1.size
                have h16 := hBd5.size
                have hK8 : ∀ k, n0 ≤ k → k < wL.heap.size → w8.heap[k]? = wL.heap[k]? := fun k h1 h2 => by
                  rw [gr8.block k (by omega) (by intro e; injection e with e; omega), gq.block k (by omega) (by intro e; injection e with e; omega), hBW.block k (by omega), hBd5.block k (by omega)]
                  exact hBL1.block k h2
                have hGA8 := hGA.keep (w' := w8) (by omega) (fun k h1 h2 => hK8 k (by omega) h2)
                have hPre8 : PreAt w8 n0 n1 pv R.pre := hPre.keep (fun k h1 h2 => hK8 k h1 (by omega))
                have hl8 : w8.ownsRow wL.heap.size 3 1 (.slice A l.length c) l.length (nums l) := row_kept hl1 (fun k h1 h2 _ => by
                  rw [gr8.block k (by omega) (by intro e; injection e with e; omega), gq.block k (by omega) (by intro e; injection e with e; omega), hBW.block k (by omega), hBd5.block k h2])
                have hglt : ∀ b, gv.ownBlock = some b → n1 ≤ b ∧ b < wL.heap.size := fun b e => by
                  obtain ⟨ts, L, k1, k2, k3, k4, k5, k6⟩ := hGA
                  exact k2.lt b e
                have halt : ∀ b, av.ownBlock = some b → n1 ≤ b ∧ b < wL.heap.size := fun b e => hGA.ats.lt b e
                obtain ⟨ts0, L0, t1, t2, t3, t4, t5, t6⟩ := hGA8
                obtain ⟨Ag, cg, rfl⟩ := own_shape t2
                obtain ⟨na, hna⟩ : ∃ na, (R.outAt :: R.at_).length = na := ⟨_, rfl⟩
                have t3' := t3
                rw [hna] at t3'
                obtain ⟨Aa, ca, rfl⟩ := own_shape t3'
                have HNA := hid hna
                have hnal : na ≤ 4194306 := by have h1 := HR.out.ok.gl; have h2 := HR.out.ok.al; simp only [List.length_cons] at hna; omega
                clear hna
                have hGA8' : GA w8 n1 (.slice Ag R.gates.length cg) (.slice Aa na ca) R.gates (R.outAt :: R.at_) := ⟨ts0, L0, t1, t2, t3, t4, t5, t6⟩
                have c1 : w8.drew.cell? ⟨r, 1, none⟩ = some (.slice Ag R.gates.length cg) := cell_row hA8.row (j := 1) rfl
                have hA9 : RwAt w8.drew r q pv (.slice Ag R.gates.length cg) (.slice Aa na ca) { R with seen := upd R.seen v true, lits := R.lits + l.length } := hA8.heap rfl rfl
                have hGA9 : GA w8.drew n1 (.slice Ag R.gates.length cg) (.slice Aa na ca) R.gates (R.outAt :: R.at_) := hGA8'.keep (Nat.le_refl _) (fun _ _ _ => rfl)
                have hPre9 : PreAt w8.drew n0 n1 pv R.pre := hPre8.keep (fun _ _ _ => rfl)
                have hl9 : w8.drew.ownsRow wL.heap.size 3 1 (.slice A l.length c) l.length (nums l) := hl8
                have t39 : w8.drew.ownsRow n1 3 1 (.slice Aa na ca) na (nums (natI (R.outAt :: R.at_))) := t3'
                have t29 : w8.drew.ownsRow n1 88 3 (.slice Ag R.gates.length cg) R.gates.length (gcells ts0) := t2
                have hS9 : (fun W => W.cell? ⟨gb, 0, none⟩ = some (.int .i64 (v : Int)) ∧ W.cell? ⟨gb, 1, none⟩ = some (.int .u8 (4 : Int)) ∧ W.cell? ⟨gb, 2, none⟩ = some (.slice A l.length c)) w8.drew := ⟨G0, G1, G2⟩
                have hF9 : Fr2 n0 r q w w8.drew := hF8.trans ⟨rfl, rfl, rfl, Nat.le_refl _, fun _ _ _ _ => rfl⟩
                have hn9 : wL.heap.size ≤ w8.drew.heap.size := by show _ ≤ w8.heap.size; omega
                have hgb9 : gb < w8.drew.heap.size := row_lt rr8
                have hgL : R.gates.length ≤ 4194305 := by have := HR.out.ok.gl; omega
                have haL : R.at_.length = R.gates.length := HR.out.ok.al
                go_wp2_with fail
                refine wp_region_held_drew (S := (fun W => W.cell? ⟨gb, 0, none⟩ = some (.int .i64 (v : Int)) ∧ W.cell? ⟨gb, 1, none⟩ = some (.int .u8 (4 : Int)) ∧ W.cell? ⟨gb, 2, none⟩ = some (.slice A l.length c))) (by kernel_rfl) hS9 (fun hHeld => ?_)
                clear c5 f5 u5 G0 G1 G2 rr8 hA8 hGA8' hPre8 hl8 t2 t3 t3' t4 t5 t6 hK8 gr8
                generalize w8.drew = v0 at *
                have hSB : Hid (∀ W, Below v0.heap.size v0 W → (fun W => W.cell? ⟨gb, 0, none⟩ = some (.int .i64 (v : Int)) ∧ W.cell? ⟨gb, 1, none⟩ = some (.int .u8 (4 : Int)) ∧ W.cell? ⟨gb, 2, none⟩ = some (.slice A l.length c)) W) := hid (fun W hW => ⟨keeps_below hW _ _ hS9.1, keeps_below hW _ _ hS9.2.1, keeps_below hW _ _ hS9.2.2⟩)
                have hAl2 : Hid (∀ W : World, ∃ w2, W.alloc (.cells #[.int .i64 (v : Int), .int .u8 (4 : Int), .slice A l.length c] 88) = w2 ∧ Below W.heap.size W w2 ∧ w2.heap.size = W.heap.size + 1 ∧ w2.heap[W.heap.size]? = some (.cells #[.int .i64 (v : Int), .int .u8 (4 : Int), .slice A l.length c] 88 (0, 0))) := hid (fun W => by
                  obtain ⟨w1, hw1, -, -, hz1, hB1, q1⟩ := new_block W #[.int .i64 (v : Int), .int .u8 (4 : Int), .slice A l.length c] 88
                  exact ⟨w1, hw1, hB1, hz1, q1⟩)
                refine wpAnyH_take (i := 0) (v := ?vn21) rfl (by kernel_rfl) (by kernel_rfl) (by kernel_rfl) (fun _ _ _ h => h) (Or.inl ⟨by rfl, ?yn21⟩) hHeld ?_
                case yn21 => (intro w' hSw; (try dsimp only at hSw); go_simp); (try with_reducible rfl)
                try simp only [Act.put, List.setIfInBounds_toArray, List.set_cons_zero, List.set_cons_succ]
                refine wpAnyH_take (i := 1) (v := ?vn22) rfl (by kernel_rfl) (by kernel_rfl) (by kernel_rfl) (fun _ _ _ h => h) (Or.inl ⟨by rfl, ?yn22⟩) hHeld ?_
                case yn22 => (intro w' hSw; (try dsimp only at hSw); go_simp); (try with_reducible rfl)
                try simp only [Act.put, List.setIfInBounds_toArray, List.set_cons_zero, List.set_cons_succ]
                refine wpAnyH_take (i := 2) (v := ?vn23) rfl (by kernel_rfl) (by kernel_rfl) (by kernel_rfl) (fun _ _ _ h => h) (Or.inl ⟨by rfl, ?yn23⟩) hHeld ?_
                case yn23 => (intro w' hSw; (try dsimp only at hSw); go_simp); (try with_reducible rfl)
                try simp only [Act.put, List.setIfInBounds_toArray, List.set_cons_zero, List.set_cons_succ]
                refine wpAnyH_take (i := 3) (v := ?vn24) rfl (by kernel_rfl) (by kernel_rfl) (by kernel_rfl) (fun _ _ _ h => h) (Or.inl ⟨by rfl, ?yn24⟩) hHeld ?_
                case yn24 => (intro w' hSw; (try dsimp only at hSw); go_simp); (try with_reducible rfl)
                try simp only [Act.put, List.setIfInBounds_toArray, List.set_cons_zero, List.set_cons_succ]
                refine wpAnyH_take (i := 4) (v := ?vn25) rfl (by kernel_rfl) (by kernel_rfl) (by kernel_rfl) (fun _ _ _ h => h) (Or.inl ⟨by rfl, ?yn25⟩) hHeld ?_
                case yn25 => (intro w' hSw; (try dsimp only at hSw); go_simp); (try with_reducible rfl)
                try simp only [Act.put, List.setIfInBounds_toArray, List.set_cons_zero, List.set_cons_succ]
                refine wpAnyH_take (i := 6) (v := ?vn26) rfl (by kernel_rfl) (by kernel_rfl) (by kernel_rfl) (fun _ _ _ h => h) (Or.inl ⟨by rfl, ?yn26⟩) hHeld ?_
                case yn26 => (intro w' hSw; (try dsimp only at hSw); go_simp); (try with_reducible rfl)
                try simp only [Act.put, List.setIfInBounds_toArray, List.set_cons_zero, List.set_cons_succ]
                refine wpAnyH_ready (rs := [5,7]) (by kernel_rfl) (by simp) ?_
                refine AllReadyH.cons rfl (fun Kc hKc => ?_) (AllReadyH.cons rfl (fun Kc hKc => ?_) AllReadyH.nil)
                · skip
                  go_simp
                  refine hKc.out _ _ hS9 (fun hHeld => ?_)
                  clear hKc Kc
                  try simp only [Act.put, List.setIfInBounds_toArray, List.set_cons_zero, List.set_cons_succ]
                  refine wpAnyH_ready (rs := [7]) (by kernel_rfl) (by simp) ?_
                  refine AllReadyH.cons rfl (fun Kc hKc => ?_) AllReadyH.nil
                  obtain ⟨v1, hv1, hBa, hza, qa⟩ := hAl2.out v0
                  go_simp
                  refine hKc.out _ _ (hSB.out v1 hBa) (fun hHeld => ?_)
                  clear hKc Kc
                  try simp only [Act.put, List.setIfInBounds_toArray, List.set_cons_zero, List.set_cons_succ]
                  have gA := hGA9.keep hBa.size (fun k _ h => hBa.block k h)
                  have own1 := t29.kept (grown_of_below hBa none) (by cases (Value.slice Ag R.gates.length cg).ownBlock <;> simp)
                  have hA10 := hA9.below hBa
                  have hSv1 := hSB.out v1 hBa
                  have hl10 := hl9.kept (grown_of_below hBa none) (by cases (Value.slice A l.length c).ownBlock <;> simp)
                  have t40 := t39.kept (grown_of_below hBa none) (by cases (Value.slice Aa na ca).ownBlock <;> simp)
                  have hPre10 : PreAt v1 n0 n1 pv R.pre := hPre9.keep (fun k h1 h2 => hBa.block k (by omega))
                  refine wpAnyH_ready (rs := [8]) (by kernel_rfl) (by simp) ?_
                  refine AllReadyH.cons rfl (fun Kc hKc => ?_) AllReadyH.nil
                  obtain ⟨i0, hi0, hzz⟩ := Option.map_eq_some_iff.1 info70
                  simp only [Prod.mk.injEq] at hzz
                  obtain ⟨hz0', hz1', hz2'⟩ := hzz
                  refine step_append_lies (w := v1) (by rfl) _ _ 38 (by rfl) n1 88 i0 (.agg #[.int .i64 0, .int .u8 0, .slice none 0 0]) 3 40 Tryz.underlying38 hi0 hz0' hz1' hz2' rfl (by decide) (.slice Ag R.gates.length cg) R.gates.length (gcells ts0) (by rfl) own1 ⟨v0.heap.size, 0, none⟩ 1 1 [.int .i64 (v : Int), .int .u8 (4 : Int), .slice A l.length c] (by rfl) rfl (World.news_of_block qa) (by intro u hu; simp at hu; rcases hu with rfl | rfl | rfl <;> rfl) (by decide) (by simp only [maxLen]; omega) (by omega) (by omega) v1.heap.size rfl ?_
                  intro g9 cap9 v2 hO9 hG9 hb9 hlt9
                  have A11 := hA10.grown hG9 (fun e => by have := (hglt r e).1; omega) (fun e => by have := (hglt q e).1; omega)
                  have hgbg : (Value.slice Ag R.gates.length cg).ownBlock ≠ some gb := fun e => by have := (hglt gb e).2; omega
                  have hSv2 := And.intro (hG9.cell hSv1.1 (fun e => hgbg e.symm)) (And.intro (hG9.cell hSv1.2.1 (fun e => hgbg e.symm)) (hG9.cell hSv1.2.2 (fun e => hgbg e.symm)))
                  refine hKc.out _ _ hSv2 (fun hHeld => ?_)
                  clear hKc Kc
                  try simp only [Act.put, List.setIfInBounds_toArray, List.set_cons_zero, List.set_cons_succ]
                  refine wpAnyH_take (i := 9) (v := ?vn27) rfl (by kernel_rfl) (by kernel_rfl) (by kernel_rfl) (fun _ _ _ h => h) (Or.inl ⟨by rfl, ?yn27⟩) hHeld ?_
                  case yn27 => (intro w' hSw; (try dsimp only at hSw); go_simp); (try with_reducible rfl)
                  try simp only [Act.put, List.setIfInBounds_toArray, List.set_cons_zero, List.set_cons_succ]
                  refine wpAnyH_take (i := 10) (v := ?vn28) rfl (by kernel_rfl) (by kernel_rfl) (by kernel_rfl) (fun _ _ _ h => h) (Or.inl ⟨by rfl, ?yn28⟩) hHeld ?_
                  case yn28 => (intro w' hSw; (try dsimp only at hSw); go_simp); (try with_reducible rfl)
                  try simp only [Act.put, List.setIfInBounds_toArray, List.set_cons_zero, List.set_cons_succ]
                  refine wpAnyH_take (i := 11) (v := ?vn29) rfl (by kernel_rfl) (by kernel_rfl) (by kernel_rfl) (fun _ _ _ h => h) (Or.inl ⟨by rfl, ?yn29⟩) hHeld ?_
                  case yn29 => (intro w' hSw; (try dsimp only at hSw); go_simp); (try with_reducible rfl)
                  try simp only [Act.put, List.setIfInBounds_toArray, List.set_cons_zero, List.set_cons_succ]
                  have k1 := cell_row A11.row (j := 1) (v := .slice Ag R.gates.length cg) rfl
                  have kf1 := frozen_of_row _ _ 1 _ _ A11.row
                  have g12 : v2.grownBy (v2.setCell ⟨r, 1, none⟩ (.slice (some ⟨g9, 0, none⟩) (R.gates.length + 1) cap9)) (some r) := grown_setCell v2 ⟨r, 1, none⟩ _
                  have A12 : RwAt (v2.setCell ⟨r, 1, none⟩ (.slice (some ⟨g9, 0, none⟩) (R.gates.length + 1) cap9)) r q pv (.slice (some ⟨g9, 0, none⟩) (R.gates.length + 1) cap9) (.slice Aa na ca) { R with seen := upd R.seen v true, lits := R.lits + l.length, gates := R.gates ++ [⟨(v : Int), (4 : Int), l⟩] } := A11.put 1 _ rfl rfl
                  have hSv3 := And.intro (g12.cell hSv2.1 (by intro e; injection e with e; exact hgbr e)) (And.intro (g12.cell hSv2.2.1 (by intro e; injection e with e; exact hgbr e)) (g12.cell hSv2.2.2 (by intro e; injection e with e; exact hgbr e)))
                  refine wpAnyH_ready (rs := [12]) (by kernel_rfl) (by simp) ?_
                  refine AllReadyH.cons rfl (fun Kc hKc => ?_) AllReadyH.nil
                  go_simp
                  refine hKc.out _ _ hSv3 (fun hHeld => ?_)
                  clear hKc Kc
                  try simp only [Act.put, List.setIfInBounds_toArray, List.set_cons_zero, List.set_cons_succ]
                  refine wpAnyH_done (by kernel_rfl) ?_ _
                  have gB := GA.pushG (n := wL.heap.size) (x := ⟨(v : Int), (4 : Int), l⟩) (w1 := v2) gA ⟨by unfold I64; simp only []; omega, by simp only []; omega, by simp only []; omega⟩ (ints_of_own hl10 (fun y hy => by have := hx y hy; unfold I64; omega) (by omega)) (fun b e => hl10.lt b e) hn1L (fun b e => (hglt b e).2) (fun b e => (halt b e).2) (fun xs' h' => by rw [own_unique h' own1]; exact hO9) hG9 (fun b e => by cases e; exact hb9.imp id (fun e => Nat.le_of_eq e.symm))
                  have gC := gB.keep g12.size (fun k h1 h2 => g12.block k h2 (by intro e; injection e with e; omega))
                  have tC := gC.ats
                  rw [HNA.out] at tC
                  have hv3s : wL.heap.size ≤ (v2.setCell ⟨r, 1, none⟩ (.slice (some ⟨g9, 0, none⟩) (R.gates.length + 1) cap9)).heap.size := by have := g12.size; have := hG9.size; omega
                  have hF12 : Fr2 n0 r q w (v2.setCell ⟨r, 1, none⟩ (.slice (some ⟨g9, 0, none⟩) (R.gates.length + 1) cap9)) := (((hF9.trans (Fr2.below (hBa.mono (by omega)))).grown (by omega) hG9 (fun k e => .inr (.inr (by have := (hglt k e).1; omega))))).grown (by have := hG9.size; omega) g12 (fun k e => by cases e; exact .inl rfl)
                  have hPre12 : PreAt (v2.setCell ⟨r, 1, none⟩ (.slice (some ⟨g9, 0, none⟩) (R.gates.length + 1) cap9)) n0 n1 pv R.pre := hPre10.keep (fun k h1 h2 => (g12.block k (by have := hG9.size; omega) (by intro e; injection e with e; omega)).trans (hG9.block k (by omega) (fun e => by have := (hglt k e.symm).1; omega)))
                  clear hHeld hSv1 hSv2 hSv3 k1 kf1
                  generalize v2.setCell ⟨r, 1, none⟩ (.slice (some ⟨g9, 0, none⟩) (R.gates.length + 1) cap9) = v3 at *
                  have k7 := cell_row A12.row (j := 7) (v := .slice Aa na ca) rfl
                  have HX7 : Hid (∀ v5, v3.grownBy v5 (Value.slice Aa na ca).ownBlock → RwAt v5 r q pv (.slice (some ⟨g9, 0, none⟩) (R.gates.length + 1) cap9) (.slice Aa na ca) { R with seen := upd R.seen v true, lits := R.lits + l.length, gates := R.gates ++ [⟨(v : Int), (4 : Int), l⟩] } ∧ v5.cell? ⟨r, 7, none⟩ = some (.slice Aa na ca) ∧ v5.frozen? ⟨r, 7, none⟩ = false) := hid (fun v5 hG => by
                    have A13 := A12.grown hG (fun e => by have := (halt r e).1; omega) (fun e => by have := (halt q e).1; omega)
                    exact ⟨A13, cell_row A13.row (j := 7) rfl, frozen_of_row _ _ 7 _ _ A13.row⟩)
                  have hn13 : n1 ≤ v3.heap.size := by omega
                  have hb88 : (na + 1) * 8 ≤ 140737488355328 := by omega
                  have HGC := hid gC
                  have HPR := hid hPre12
                  clear gA gB gC hGA9 hA9 hA10 A11 hl9 hl10 t29 t39 t40 own1 hPre9 hPre10 hPre12 c1
                  go_wp2_with (first | (at_builtin; refine append_one n1 rfl _ _ 48 3 (.int .i64 0) 1 8 rfl Tryz.underlying48 info3 rfl (by decide) (by decide) (.slice Aa na ca) na (nums (natI (R.outAt :: R.at_))) #[.int .i64 (no : Int)] rfl rfl rfl (by intro u hu; simp at hu; subst hu; rfl) tC hn13 hb88 ?_; intro ga cap4 v5 hO5 hG5 hg5 hb5 hlt5; obtain ⟨A13, c7, f7⟩ := HX7.out v5 hG5) | fail)
                  go_ret
                  unfold AddPost
                  rw [HP.out]
                  have g14 : v5.grownBy (v5.setCell ⟨r, 7, none⟩ (.slice (some ⟨ga, 0, none⟩) (na + 1) cap4)) (some r) := grown_setCell v5 ⟨r, 7, none⟩ _
                  have A14 : RwAt (v5.setCell ⟨r, 7, none⟩ (.slice (some ⟨ga, 0, none⟩) (na + 1) cap4)) r q pv (.slice (some ⟨g9, 0, none⟩) (R.gates.length + 1) cap9) (.slice (some ⟨ga, 0, none⟩) (na + 1) cap4) { R with seen := upd R.seen v true, lits := R.lits + l.length, gates := R.gates ++ [⟨(v : Int), (4 : Int), l⟩], at_ := R.at_ ++ [no] } := A13.put 7 _ rfl rfl
                  have hk := HR.out.ok
                  have gD := GA.pushA (w1 := v5) (av1 := .slice (some ⟨ga, 0, none⟩) (na + 1) cap4) no HGC.out (by rw [HNA.out]; exact hO5) hG5 (fun b e => by cases e; exact hg5)
                  have h5s := hG5.size
                  have h14s := g14.size
                  refine ⟨rfl, (hF12.grown (by omega) hG5 (fun k e => .inr (.inr (by have := (halt k e).1; omega)))).grown (by omega) g14 (fun k e => by cases e; exact .inl rfl), fun _ => ⟨hrn, hqn, by omega, ⟨hk.vars, hk.nv, by have := HOV.out; simp only []; omega, hk.pre, Nat.le_succ_of_le hk.prel, ?_, ?_, ?_, hk.out⟩, _, _, _, A14, .inr ⟨HD.out, n1, hn01, by omega, ?_, ?_⟩⟩⟩
                  · have := hk.gl; simp only [List.length_append, List.length_cons, List.length_nil]; omega
                  · have := hk.al; simp only [List.length_append, List.length_cons, List.length_nil]; omega
                  · intro g hg
                    rcases List.mem_append.1 hg with hg | hg
                    · exact hk.gs g hg
                    · rw [List.mem_singleton.1 hg]
                      exact ⟨⟨by simp only []; omega, by simp only []; omega⟩, ⟨by simp only []; omega, by simp only []; omega⟩, hx⟩
                  · exact HPR.out.keep (fun k h1 h2 => (g14.block k (by omega) (by intro e; injection e with e; omega)).trans (hG5.block k (by omega) (fun e => by have := (halt k e.symm).1; omega)))
                  · exact gD.keep g14.size (fun k h1 h2 => g14.block k h2 (by intro e; injection e with e; omega))
                · skip
                  obtain ⟨v1, hv1, hBa, hza, qa⟩ := hAl2.out v0
                  go_simp
                  refine hKc.out _ _ (hSB.out v1 hBa) (fun hHeld => ?_)
                  clear hKc Kc
                  try simp only [Act.put, List.setIfInBounds_toArray, List.set_cons_zero, List.set_cons_succ]
                  have c1v := keeps_below hBa _ _ c1
                  refine wpAnyH_ready (rs := [5]) (by kernel_rfl) (by simp) ?_
                  refine AllReadyH.cons rfl (fun Kc hKc => ?_) AllReadyH.nil
                  go_simp
                  refine hKc.out _ _ (hSB.out v1 hBa) (fun hHeld => ?_)
                  clear hKc Kc
                  try simp only [Act.put, List.setIfInBounds_toArray, List.set_cons_zero, List.set_cons_succ]
                  have gA := hGA9.keep hBa.size (fun k _ h => hBa.block k h)
                  have own1 := t29.kept (grown_of_below hBa none) (by cases (Value.slice Ag R.gates.length cg).ownBlock <;> simp)
                  have hA10 := hA9.below hBa
                  have hSv1 := hSB.out v1 hBa
                  have hl10 := hl9.kept (grown_of_below hBa none) (by cases (Value.slice A l.length c).ownBlock <;> simp)
                  have t40 := t39.kept (grown_of_below hBa none) (by cases (Value.slice Aa na ca).ownBlock <;> simp)
                  have hPre10 : PreAt v1 n0 n1 pv R.pre := hPre9.keep (fun k h1 h2 => hBa.block k (by omega))
                  refine wpAnyH_ready (rs := [8]) (by kernel_rfl) (by simp) ?_
                  refine AllReadyH.cons rfl (fun Kc hKc => ?_) AllReadyH.nil
                  obtain ⟨i0, hi0, hzz⟩ := Option.map_eq_some_iff.1 info70
                  simp only [Prod.mk.injEq] at hzz
                  obtain ⟨hz0', hz1', hz2'⟩ := hzz
                  refine step_append_lies (w := v1) (by rfl) _ _ 38 (by rfl) n1 88 i0 (.agg #[.int .i64 0, .int .u8 0, .slice none 0 0]) 3 40 Tryz.underlying38 hi0 hz0' hz1' hz2' rfl (by decide) (.slice Ag R.gates.length cg) R.gates.length (gcells ts0) (by rfl) own1 ⟨v0.heap.size, 0, none⟩ 1 1 [.int .i64 (v : Int), .int .u8 (4 : Int), .slice A l.length c] (by rfl) rfl (World.news_of_block qa) (by intro u hu; simp at hu; rcases hu with rfl | rfl | rfl <;> rfl) (by decide) (by simp only [maxLen]; omega) (by omega) (by omega) v1.heap.size rfl ?_
                  intro g9 cap9 v2 hO9 hG9 hb9 hlt9
                  have A11 := hA10.grown hG9 (fun e => by have := (hglt r e).1; omega) (fun e => by have := (hglt q e).1; omega)
                  have hgbg : (Value.slice Ag R.gates.length cg).ownBlock ≠ some gb := fun e => by have := (hglt gb e).2; omega
                  have hSv2 := And.intro (hG9.cell hSv1.1 (fun e => hgbg e.symm)) (And.intro (hG9.cell hSv1.2.1 (fun e => hgbg e.symm)) (hG9.cell hSv1.2.2 (fun e => hgbg e.symm)))
                  refine hKc.out _ _ hSv2 (fun hHeld => ?_)
                  clear hKc Kc
                  try simp only [Act.put, List.setIfInBounds_toArray, List.set_cons_zero, List.set_cons_succ]
                  refine wpAnyH_take (i := 9) (v := ?vn30) rfl (by kernel_rfl) (by kernel_rfl) (by kernel_rfl) (fun _ _ _ h => h) (Or.inl ⟨by rfl, ?yn30⟩) hHeld ?_
                  case yn30 => (intro w' hSw; (try dsimp only at hSw); go_simp); (try with_reducible rfl)
                  try simp only [Act.put, List.setIfInBounds_toArray, List.set_cons_zero, List.set_cons_succ]
                  refine wpAnyH_take (i := 10) (v := ?vn31) rfl (by kernel_rfl) (by kernel_rfl) (by kernel_rfl) (fun _ _ _ h => h) (Or.inl ⟨by rfl, ?yn31⟩) hHeld ?_
                  case yn31 => (intro w' hSw; (try dsimp only at hSw); go_simp); (try with_reducible rfl)
                  try simp only [Act.put, List.setIfInBounds_toArray, List.set_cons_zero, List.set_cons_succ]
                  refine wpAnyH_take (i := 11) (v := ?vn32) rfl (by kernel_rfl) (by kernel_rfl) (by kernel_rfl) (fun _ _ _ h => h) (Or.inl ⟨by rfl, ?yn32⟩) hHeld ?_
                  case yn32 => (intro w' hSw; (try dsimp only at hSw); go_simp); (try with_reducible rfl)
                  try simp only [Act.put, List.setIfInBounds_toArray, List.set_cons_zero, List.set_cons_succ]
                  have k1 := cell_row A11.row (j := 1) (v := .slice Ag R.gates.length cg) rfl
                  have kf1 := frozen_of_row _ _ 1 _ _ A11.row
                  have g12 : v2.grownBy (v2.setCell ⟨r, 1, none⟩ (.slice (some ⟨g9, 0, none⟩) (R.gates.length + 1) cap9)) (some r) := grown_setCell v2 ⟨r, 1, none⟩ _
                  have A12 : RwAt (v2.setCell ⟨r, 1, none⟩ (.slice (some ⟨g9, 0, none⟩) (R.gates.length + 1) cap9)) r q pv (.slice (some ⟨g9, 0, none⟩) (R.gates.length + 1) cap9) (.slice Aa na ca) { R with seen := upd R.seen v true, lits := R.lits + l.length, gates := R.gates ++ [⟨(v : Int), (4 : Int), l⟩] } := A11.put 1 _ rfl rfl
                  have hSv3 := And.intro (g12.cell hSv2.1 (by intro e; injection e with e; exact hgbr e)) (And.intro (g12.cell hSv2.2.1 (by intro e; injection e with e; exact hgbr e)) (g12.cell hSv2.2.2 (by intro e; injection e with e; exact hgbr e)))
                  refine wpAnyH_ready (rs := [12]) (by kernel_rfl) (by simp) ?_
                  refine AllReadyH.cons rfl (fun Kc hKc => ?_) AllReadyH.nil
                  go_simp
                  refine hKc.out _ _ hSv3 (fun hHeld => ?_)
                  clear hKc Kc
                  try simp only [Act.put, List.setIfInBounds_toArray, List.set_cons_zero, List.set_cons_succ]
                  refine wpAnyH_done (by kernel_rfl) ?_ _
                  have gB := GA.pushG (n := wL.heap.size) (x := ⟨(v : Int), (4 : Int), l⟩) (w1 := v2) gA ⟨by unfold I64; simp only []; omega, by simp only []; omega, by simp only []; omega⟩ (ints_of_own hl10 (fun y hy => by have := hx y hy; unfold I64; omega) (by omega)) (fun b e => hl10.lt b e) hn1L (fun b e => (hglt b e).2) (fun b e => (halt b e).2) (fun xs' h' => by rw [own_unique h' own1]; exact hO9) hG9 (fun b e => by cases e; exact hb9.imp id (fun e => Nat.le_of_eq e.symm))
                  have gC := gB.keep g12.size (fun k h1 h2 => g12.block k h2 (by intro e; injection e with e; omega))
                  have tC := gC.ats
                  rw [HNA.out] at tC
                  have hv3s : wL.heap.size ≤ (v2.setCell ⟨r, 1, none⟩ (.slice (some ⟨g9, 0, none⟩) (R.gates.length + 1) cap9)).heap.size := by have := g12.size; have := hG9.size; omega
                  have hF12 : Fr2 n0 r q w (v2.setCell ⟨r, 1, none⟩ (.slice (some ⟨g9, 0, none⟩) (R.gates.length + 1) cap9)) := (((hF9.trans (Fr2.below (hBa.mono (by omega)))).grown (by omega) hG9 (fun k e => .inr (.inr (by have := (hglt k e).1; omega))))).grown (by have := hG9.size; omega) g12 (fun k e => by cases e; exact .inl rfl)
                  have hPre12 : PreAt (v2.setCell ⟨r, 1, none⟩ (.slice (some ⟨g9, 0, none⟩) (R.gates.length + 1) cap9)) n0 n1 pv R.pre := hPre10.keep (fun k h1 h2 => (g12.block k (by have := hG9.size; omega) (by intro e; injection e with e; omega)).trans (hG9.block k (by omega) (fun e => by have := (hglt k e.symm).1; omega)))
                  clear hHeld hSv1 hSv2 hSv3 k1 kf1
                  generalize v2.setCell ⟨r, 1, none⟩ (.slice (some ⟨g9, 0, none⟩) (R.gates.length + 1) cap9) = v3 at *
                  have k7 := cell_row A12.row (j := 7) (v := .slice Aa na ca) rfl
                  have HX7 : Hid (∀ v5, v3.grownBy v5 (Value.slice Aa na ca).ownBlock → RwAt v5 r q pv (.slice (some ⟨g9, 0, none⟩) (R.gates.length + 1) cap9) (.slice Aa na ca) { R with seen := upd R.seen v true, lits := R.lits + l.length, gates := R.gates ++ [⟨(v : Int), (4 : Int), l⟩] } ∧ v5.cell? ⟨r, 7, none⟩ = some (.slice Aa na ca) ∧ v5.frozen? ⟨r, 7, none⟩ = false) := hid (fun v5 hG => by
                    have A13 := A12.grown hG (fun e => by have := (halt r e).1; omega) (fun e => by have := (halt q e).1; omega)
                    exact ⟨A13, cell_row A13.row (j := 7) rfl, frozen_of_row _ _ 7 _ _ A13.row⟩)
                  have hn13 : n1 ≤ v3.heap.size := by omega
                  have hb88 : (na + 1) * 8 ≤ 140737488355328 := by omega
                  have HGC := hid gC
                  have HPR := hid hPre12
                  clear gA gB gC hGA9 hA9 hA10 A11 hl9 hl10 t29 t39 t40 own1 hPre9 hPre10 hPre12 c1
                  go_wp2_with (first | (at_builtin; refine append_one n1 rfl _ _ 48 3 (.int .i64 0) 1 8 rfl Tryz.underlying48 info3 rfl (by decide) (by decide) (.slice Aa na ca) na (nums (natI (R.outAt :: R.at_))) #[.int .i64 (no : Int)] rfl rfl rfl (by intro u hu; simp at hu; subst hu; rfl) tC hn13 hb88 ?_; intro ga cap4 v5 hO5 hG5 hg5 hb5 hlt5; obtain ⟨A13, c7, f7⟩ := HX7.out v5 hG5) | fail)
                  go_ret
                  unfold AddPost
                  rw [HP.out]
                  have g14 : v5.grownBy (v5.setCell ⟨r, 7, none⟩ (.slice (some ⟨ga, 0, none⟩) (na + 1) cap4)) (some r) := grown_setCell v5 ⟨r, 7, none⟩ _
                  have A14 : RwAt (v5.setCell ⟨r, 7, none⟩ (.slice (some ⟨ga, 0, none⟩) (na + 1) cap4)) r q pv (.slice (some ⟨g9, 0, none⟩) (R.gates.length + 1) cap9) (.slice (some ⟨ga, 0, none⟩) (na + 1) cap4) { R with seen := upd R.seen v true, lits := R.lits + l.length, gates := R.gates ++ [⟨(v : Int), (4 : Int), l⟩], at_ := R.at_ ++ [no] } := A13.put 7 _ rfl rfl
                  have hk := HR.out.ok
                  have gD := GA.pushA (w1 := v5) (av1 := .slice (some ⟨ga, 0, none⟩) (na + 1) cap4) no HGC.out (by rw [HNA.out]; exact hO5) hG5 (fun b e => by cases e; exact hg5)
                  have h5s := hG5.size
                  have h14s := g14.size
                  refine ⟨rfl, (hF12.grown (by omega) hG5 (fun k e => .inr (.inr (by have := (halt k e).1; omega)))).grown (by omega) g14 (fun k e => by cases e; exact .inl rfl), fun _ => ⟨hrn, hqn, by omega, ⟨hk.vars, hk.nv, by have := HOV.out; simp only []; omega, hk.pre, Nat.le_succ_of_le hk.prel, ?_, ?_, ?_, hk.out⟩, _, _, _, A14, .inr ⟨HD.out, n1, hn01, by omega, ?_, ?_⟩⟩⟩
                  · have := hk.gl; simp only [List.length_append, List.length_cons, List.length_nil]; omega
                  · have := hk.al; simp only [List.length_append, List.length_cons, List.length_nil]; omega
                  · intro g hg
                    rcases List.mem_append.1 hg with hg | hg
                    · exact hk.gs g hg
                    · rw [List.mem_singleton.1 hg]
                      exact ⟨⟨by simp only []; omega, by simp only []; omega⟩, ⟨by simp only []; omega, by simp only []; omega⟩, hx⟩
                  · exact HPR.out.keep (fun k h1 h2 => (g14.block k (by omega) (by intro e; injection e with e; omega)).trans (hG5.block k (by omega) (fun e => by have := (halt k e.symm).1; omega)))
                  · exact gD.keep g14.size (fun k h1 h2 => g14.block k h2 (by intro e; injection e with e; omega))
          · have hz2 : ((l.length : Int) != 3) = true := bne_iff_ne.2 (by omega)
            have HP := hid (show addL R no (.gate v 4 l) = (2, R) by
              rw [addL_gate, if_neg (by rw [HD.out]; simp), if_pos (.inr ⟨rfl, hn3⟩)])
            clear hn3
            go_wp2_with fail
            go_ret
            unfold AddPost
            rw [HP.out]
            exact ⟨rfl, hF1.trans (Fr2.below (hB5.mono hn1)), fun h => absurd h (by simp)⟩
        · have hz4 : ((kd : Int) == 4) = false := beq_eq_false_iff_ne.2 (by omega)
          have HAR : Hid (¬ ((kd = 3 ∧ l.length ≠ 2) ∨ (kd = 4 ∧ l.length ≠ 3))) := hid (by omega)
          clear h3 h4
          go_wp2_with fail
          have hA5 := hA1.below hB5
          have hF5 := hF1.trans (Fr2.below (hB5.mono hn1))
          have y1 := keeps_below hB5 _ _ z1
          have y2 := keeps_below hB5 _ _ z2
          have c3 := cell_row hA5.row (j := 3) (v := .slice (some ⟨q, 0, none⟩) 65537 65537) rfl
          have cs := hA5.seen.cell v (by omega)
          have hgbr : gb ≠ r := by omega
          have hgbq : gb ≠ q := by omega
          cases hS : R.seen v with
          | true =>
            rw [hS] at cs
            have HP := hid (show addL R no (.gate v kd l) = (7, R) by
              rw [addL_gate, if_neg (by rw [HD.out]; simp), if_neg (by simpa using HAR.out), if_pos (by rw [Int.toNat_natCast]; exact hS)])
            clear hS
            go_wp2_with fail
            go_quiet (fail)
            go_wp2_with fail
            go_ret
            unfold AddPost
            rw [HP.out]
            exact ⟨rfl, hF5.trans (Fr2.below (below_drewN (Below.refl _ _) _)), fun h => absurd h (by simp)⟩
          | false =>
            rw [hS] at cs
            have HS := hid hS
            clear hS
            go_wp2_with fail
            go_quiet (fail)
            go_wp2_with fail
            have hAd : RwAt (w5.drewN nq) r q pv gv av R := hA5.heap rfl rfl
            have hBd5 : Below w1.heap.size w1 (w5.drewN nq) := below_drewN hB5 _
            have yd2 : (w5.drewN nq).cell? ⟨w.heap.size, 2, none⟩ = some (.int .i64 (v : Int)) := y2
            have cd3 : (w5.drewN nq).cell? ⟨r, 3, none⟩ = some (.slice (some ⟨q, 0, none⟩) 65537 65537) := c3
            have rrd : (w5.drewN nq).heap[gb]? = some (.cells #[.int .i64 (v : Int), .int .u8 (kd : Int), .slice A l.length c] 88 (0, 0)) := rr
            have hFd : Fr2 n0 r q w (w5.drewN nq) := hF5.trans (Fr2.below (below_drewN (Below.refl _ _) _))
            clear cs y1 y2 c3 g0 g1 g2 rr hA5 hB5 hF5
            generalize w5.drewN nq = w6 at *
            have l1 := fun p => cell_since yd2 p
            have l2 := fun p => cell_since cd3 p
            refine region_tail 7 (by kernel_rfl) (by kernel_rfl) ?_
            simp only [List.take_succ_cons, List.take_zero, List.drop_succ_cons, List.drop_zero]
            repeat (first | go_big_quiet_step (fail) | quiet_step (fail))
            refine wpQuiet_nil ?_
            rintro W ⟨pw, hW⟩
            have hBW : Below w6.heap.size w6 W := by rw [hW]; exact since_below w6 pw
            have hAW := hAd.below hBW
            have csW := hAW.seen.cell v (by omega)
            have cfW := hAW.seen.free v
            have hA7 : RwAt (W.setCell ⟨q, v, none⟩ (.bool true)) r q pv gv av { R with seen := upd R.seen v true } :=
              ⟨(heap_setCell_other W ⟨q, v, none⟩ r _ hAW.ne).trans hAW.row, hAW.seen.store v true, hAW.ne⟩
            have gq : W.grownBy (W.setCell ⟨q, v, none⟩ (.bool true)) (some q) := grown_setCell W ⟨q, v, none⟩ _
            obtain ⟨w7, hw7⟩ : ∃ w7, W.setCell ⟨q, v, none⟩ (.bool true) = w7 := ⟨_, rfl⟩
            rw [hw7] at hA7 gq
            have rr7 := row_grown (row_below rrd hBW) gq (by intro e; injection e with e; exact hgbq e.symm)
            have hlv : R.lits ≤ 200000 := HR.out.ok.lits
            have c5 := cell_row hA7.row (j := 5) (v := .int .i64 (R.lits : Int)) rfl
            have f5 := frozen_of_row _ _ 5 _ _ hA7.row
            have hwl : IntKind.i64.wrap ((R.lits : Int) + (l.length : Int)) = (R.lits : Int) + (l.length : Int) := IntWalk.i64_in _ (by omega)
            have hA8 : RwAt (w7.setCell ⟨r, 5, none⟩ (.int .i64 ((R.lits : Int) + (l.length : Int)))) r q pv gv av { R with seen := upd R.seen v true, lits := R.lits + l.length } := hA7.put 5 _ rfl (by simp [stg])
            have gr8 : w7.grownBy (w7.setCell ⟨r, 5, none⟩ (.int .i64 ((R.lits : Int) + (l.length : Int)))) (some r) := grown_setCell w7 ⟨r, 5, none⟩ _
            obtain ⟨w8, hw8⟩ : ∃ w8, w7.setCell ⟨r, 5, none⟩ (.int .i64 ((R.lits : Int) + (l.length : Int))) = w8 := ⟨_, rfl⟩
            rw [hw8] at hA8 gr8
            have rr8 := row_grown rr7 gr8 (by intro e; injection e with e; exact hgbr e.symm)
            have hFs := hFd.size
            have hBs := hBW.size
            have hgs := gq.size
            have h8s := gr8.size
            have hn6 : n0 ≤ w6.heap.size := by omega
            have hF8 := ((hFd.trans (Fr2.below (hBW.mono hn6))).grown (by omega) gq (fun k e => by cases e; exact .inr (.inl rfl))).grown (by omega) gr8 (fun k e => by cases e; exact .inl rfl)
            have u5 := cell_row hA8.row (j := 5) (v := .int .i64 (((R.lits + l.length : Nat)) : Int)) rfl
            rw [Int.natCast_add] at u5
            have G0 := cell_row rr8 (j := 0) (v := .int .i64 (v : Int)) rfl
            have G1 := cell_row rr8 (j := 1) (v := .int .u8 (kd : Int)) rfl
            have G2 := cell_row rr8 (j := 2) (v := .slice A l.length c) rfl
            clear l1 l2 hW yd2 cd3
            by_cases hov : 200000 < R.lits + l.length
            · have HP := hid (show addL R no (.gate v kd l) = (3, R) by
                rw [addL_gate, if_neg (by rw [HD.out]; simp), if_neg (by simpa using HAR.out), if_neg (by rw [Int.toNat_natCast, HS.out]; simp), if_pos hov])
              have hov2 : (200000 : Int) < (R.lits : Int) + (l.length : Int) := by omega
              clear hov
              go_wp2_with fail
              go_ret
              unfold AddPost
              rw [HP.out]
              exact ⟨rfl, hF8, fun h => absurd h (by simp)⟩
            · have hov2 : decide ((200000 : Int) < (R.lits : Int) + (l.length : Int)) = false := decide_eq_false (by omega)
              have HOV := hid hov
              clear hov
              have HP := hid (show addL R no (.gate v kd l) = (0, { R with seen := upd R.seen v true, lits := R.lits + l.length, gates := R.gates ++ [⟨v, kd, l⟩], at_ := R.at_ ++ [no] }) by
                rw [addL_gate, if_neg (by rw [HD.out]; simp), if_neg (by simpa using HAR.out), if_neg (by rw [Int.toNat_natCast, HS.out]; simp), if_neg HOV.out, Int.toNat_natCast]
                try rfl)
              obtain ⟨n1, hn01, hn1L, hPre, hGA⟩ : ∃ n1, n0 ≤ n1 ∧ n1 ≤ wL.heap.size ∧ PreAt wL n0 n1 pv R.pre ∧ GA wL n1 gv av R.gates (R.outAt :: R.at_) := by
                rcases HPH.out with ⟨h0, _⟩ | ⟨_, n1, h1, h2, h3, h4⟩
                · rw [HD.out] at h0; cases h0
                · exact ⟨n1, h1, h2, h3, h4⟩
              have hLw1 : wL.heap.size ≤ w1.heap.size := hBL1.size
              have h16 := hBd5.size
              have hK8 : ∀ k, n0 ≤ k → k < wL.heap.size → w8.heap[k]? = wL.heap[k]? := fun k h1 h2 => by
                rw [gr8.block k (by omega) (by intro e; injection e with e; omega), gq.block k (by omega) (by intro e; injection e with e; omega), hBW.block k (by omega), hBd5.block k (by omega)]
                exact hBL1.block k h2
              have hGA8 := hGA.keep (w' := w8) (by omega) (fun k h1 h2 => hK8 k (by omega) h2)
              have hPre8 : PreAt w8 n0 n1 pv R.pre := hPre.keep (fun k h1 h2 => hK8 k h1 (by omega))
              have hl8 : w8.ownsRow wL.heap.size 3 1 (.slice A l.length c) l.length (nums l) := row_kept hl1 (fun k h1 h2 _ => by
                rw [gr8.block k (by omega) (by intro e; injection e with e; omega), gq.block k (by omega) (by intro e; injection e with e; omega), hBW.block k (by omega), hBd5.block k h2])
              have hglt : ∀ b, gv.ownBlock = some b → n1 ≤ b ∧ b < wL.heap.size := fun b e => by
                obtain ⟨ts, L, k1, k2, k3, k4, k5, k6⟩ := hGA
                exact k2.lt b e
              have halt : ∀ b, av.ownBlock = some b → n1 ≤ b ∧ b < wL.heap.size := fun b e => hGA.ats.lt b e
              obtain ⟨ts0, L0, t1, t2, t3, t4, t5, t6⟩ := hGA8
              obtain ⟨Ag, cg, rfl⟩ := own_shape t2
              obtain ⟨na, hna⟩ : ∃ na, (R.outAt :: R.at_).length = na := ⟨_, rfl⟩
              have t3' := t3
              rw [hna] at t3'
              obtain ⟨Aa, ca, rfl⟩ := own_shape t3'
              have HNA := hid hna
              have hnal : na ≤ 4194306 := by have h1 := HR.out.ok.gl; have h2 := HR.out.ok.al; simp only [List.length_cons] at hna; omega
              clear hna
              have hGA8' : GA w8 n1 (.slice Ag R.gates.length cg) (.slice Aa na ca) R.gates (R.outAt :: R.at_) := ⟨ts0, L0, t1, t2, t3, t4, t5, t6⟩
              have c1 : w8.drew.cell? ⟨r, 1, none⟩ = some (.slice Ag R.gates.length cg) := cell_row hA8.row (j := 1) rfl
              have hA9 : RwAt w8.drew r q pv (.slice Ag R.gates.length cg) (.slice Aa na ca) { R with seen := upd R.seen v true, lits := R.lits + l.length } := hA8.heap rfl rfl
              have hGA9 : GA w8.drew n1 (.slice Ag R.gates.length cg) (.slice Aa na ca) R.gates (R.outAt :: R.at_) := hGA8'.keep (Nat.le_refl _) (fun _ _ _ => rfl)
              have hPre9 : PreAt w8.drew n0 n1 pv R.pre := hPre8.keep (fun _ _ _ => rfl)
              have hl9 : w8.drew.ownsRow wL.heap.size 3 1 (.slice A l.length c) l.length (nums l) := hl8
              have t39 : w8.drew.ownsRow n1 3 1 (.slice Aa na ca) na (nums (natI (R.outAt :: R.at_))) := t3'
              have t29 : w8.drew.ownsRow n1 88 3 (.slice Ag R.gates.length cg) R.gates.length (gcells ts0) := t2
              have hS9 : (fun W => W.cell? ⟨gb, 0, none⟩ = some (.int .i64 (v : Int)) ∧ W.cell? ⟨gb, 1, none⟩ = some (.int .u8 (kd : Int)) ∧ W.cell? ⟨gb, 2, none⟩ = some (.slice A l.length c)) w8.drew := ⟨G0, G1, G2⟩
              have hF9 : Fr2 n0 r q w w8.drew := hF8.trans ⟨rfl, rfl, rfl, Nat.le_refl _, fun _ _ _ _ => rfl⟩
              have hn9 : wL.heap.size ≤ w8.drew.heap.size := by show _ ≤ w8.heap.size; omega
              have hgb9 : gb < w8.drew.heap.size := row_lt rr8
              have hgL : R.gates.length ≤ 4194305 := by have := HR.out.ok.gl; omega
              have haL : R.at_.length = R.gates.length := HR.out.ok.al
              go_wp2_with fail
              refine wp_region_held_drew (S := (fun W => W.cell? ⟨gb, 0, none⟩ = some (.int .i64 (v : Int)) ∧ W.cell? ⟨gb, 1, none⟩ = some (.int .u8 (kd : Int)) ∧ W.cell? ⟨gb, 2, none⟩ = some (.slice A l.length c))) (by kernel_rfl) hS9 (fun hHeld => ?_)
              clear c5 f5 u5 G0 G1 G2 rr8 hA8 hGA8' hPre8 hl8 t2 t3 t3' t4 t5 t6 hK8 gr8
              generalize w8.drew = v0 at *
              have hSB : Hid (∀ W, Below v0.heap.size v0 W → (fun W => W.cell? ⟨gb, 0, none⟩ = some (.int .i64 (v : Int)) ∧ W.cell? ⟨gb, 1, none⟩ = some (.int .u8 (kd : Int)) ∧ W.cell? ⟨gb, 2, none⟩ = some (.slice A l.length c)) W) := hid (fun W hW => ⟨keeps_below hW _ _ hS9.1, keeps_below hW _ _ hS9.2.1, keeps_below hW _ _ hS9.2.2⟩)
              have hAl2 : Hid (∀ W : World, ∃ w2, W.alloc (.cells #[.int .i64 (v : Int), .int .u8 (kd : Int), .slice A l.length c] 88) = w2 ∧ Below W.heap.size W w2 ∧ w2.heap.size = W.heap.size + 1 ∧ w2.heap[W.heap.size]? = some (.cells #[.int .i64 (v : Int), .int .u8 (kd : Int), .slice A l.length c] 88 (0, 0))) := hid (fun W => by
                obtain ⟨w1, hw1, -, -, hz1, hB1, q1⟩ := new_block W #[.int .i64 (v : Int), .int .u8 (kd : Int), .slice A l.length c] 88
                exact ⟨w1, hw1, hB1, hz1, q1⟩)
              refine wpAnyH_take (i := 0) (v := ?vn33) rfl (by kernel_rfl) (by kernel_rfl) (by kernel_rfl) (fun _ _ _ h => h) (Or.inl ⟨by rfl, ?yn33⟩) hHeld ?_
              case yn33 => (intro w' hSw; (try dsimp only at hSw); go_simp); (try with_reducible rfl)
              try simp only [Act.put, List.setIfInBounds_toArray, List.set_cons_zero, List.set_cons_succ]
              refine wpAnyH_take (i := 1) (v := ?vn34) rfl (by kernel_rfl) (by kernel_rfl) (by kernel_rfl) (fun _ _ _ h => h) (Or.inl ⟨by rfl, ?yn34⟩) hHeld ?_
              case yn34 => (intro w' hSw; (try dsimp only at hSw); go_simp); (try with_reducible rfl)
              try simp only [Act.put, List.setIfInBounds_toArray, List.set_cons_zero, List.set_cons_succ]
              refine wpAnyH_take (i := 2) (v := ?vn35) rfl (by kernel_rfl) (by kernel_rfl) (by kernel_rfl) (fun _ _ _ h => h) (Or.inl ⟨by rfl, ?yn35⟩) hHeld ?_
              case yn35 => (intro w' hSw; (try dsimp only at hSw); go_simp); (try with_reducible rfl)
              try simp only [Act.put, List.setIfInBounds_toArray, List.set_cons_zero, List.set_cons_succ]
              refine wpAnyH_take (i := 3) (v := ?vn36) rfl (by kernel_rfl) (by kernel_rfl) (by kernel_rfl) (fun _ _ _ h => h) (Or.inl ⟨by rfl, ?yn36⟩) hHeld ?_
              case yn36 => (intro w' hSw; (try dsimp only at hSw); go_simp); (try with_reducible rfl)
              try simp only [Act.put, List.setIfInBounds_toArray, List.set_cons_zero, List.set_cons_succ]
              refine wpAnyH_take (i := 4) (v := ?vn37) rfl (by kernel_rfl) (by kernel_rfl) (by kernel_rfl) (fun _ _ _ h => h) (Or.inl ⟨by rfl, ?yn37⟩) hHeld ?_
              case yn37 => (intro w' hSw; (try dsimp only at hSw); go_simp); (try with_reducible rfl)
              try simp only [Act.put, List.setIfInBounds_toArray, List.set_cons_zero, List.set_cons_succ]
              refine wpAnyH_take (i := 6) (v := ?vn38) rfl (by kernel_rfl) (by kernel_rfl) (by kernel_rfl) (fun _ _ _ h => h) (Or.inl ⟨by rfl, ?yn38⟩) hHeld ?_
              case yn38 => (intro w' hSw; (try dsimp only at hSw); go_simp); (try with_reducible rfl)
              try simp only [Act.put, List.setIfInBounds_toArray, List.set_cons_zero, List.set_cons_succ]
              refine wpAnyH_ready (rs := [5,7]) (by kernel_rfl) (by simp) ?_
              refine AllReadyH.cons rfl (fun Kc hKc => ?_) (AllReadyH.cons rfl (fun Kc hKc => ?_) AllReadyH.nil)
              · skip
                go_simp
                refine hKc.out _ _ hS9 (fun hHeld => ?_)
                clear hKc Kc
                try simp only [Act.put, List.setIfInBounds_toArray, List.set_cons_zero, List.set_cons_succ]
                refine wpAnyH_ready (rs := [7]) (by kernel_rfl) (by simp) ?_
                refine AllReadyH.cons rfl (fun Kc hKc => ?_) AllReadyH.nil
                obtain ⟨v1, hv1, hBa, hza, qa⟩ := hAl2.out v0
                go_simp
                refine hKc.out _ _ (hSB.out v1 hBa) (fun hHeld => ?_)
                clear hKc Kc
                try simp only [Act.put, List.setIfInBounds_toArray, List.set_cons_zero, List.set_cons_succ]
                have gA := hGA9.keep hBa.size (fun k _ h => hBa.block k h)
                have own1 := t29.kept (grown_of_below hBa none) (by cases (Value.slice Ag R.gates.length cg).ownBlock <;> simp)
                have hA10 := hA9.below hBa
                have hSv1 := hSB.out v1 hBa
                have hl10 := hl9.kept (grown_of_below hBa none) (by cases (Value.slice A l.length c).ownBlock <;> simp)
                have t40 := t39.kept (grown_of_below hBa none) (by cases (Value.slice Aa na ca).ownBlock <;> simp)
                have hPre10 : PreAt v1 n0 n1 pv R.pre := hPre9.keep (fun k h1 h2 => hBa.block k (by omega))
                refine wpAnyH_ready (rs := [8]) (by kernel_rfl) (by simp) ?_
                refine AllReadyH.cons rfl (fun Kc hKc => ?_) AllReadyH.nil
                obtain ⟨i0, hi0, hzz⟩ := Option.map_eq_some_iff.1 info70
                simp only [Prod.mk.injEq] at hzz
                obtain ⟨hz0', hz1', hz2'⟩ := hzz
                refine step_append_lies (w := v1) (by rfl) _ _ 38 (by rfl) n1 88 i0 (.agg #[.int .i64 0, .int .u8 0, .slice none 0 0]) 3 40 Tryz.underlying38 hi0 hz0' hz1' hz2' rfl (by decide) (.slice Ag R.gates.length cg) R.gates.length (gcells ts0) (by rfl) own1 ⟨v0.heap.size, 0, none⟩ 1 1 [.int .i64 (v : Int), .int .u8 (kd : Int), .slice A l.length c] (by rfl) rfl (World.news_of_block qa) (by intro u hu; simp at hu; rcases hu with rfl | rfl | rfl <;> rfl) (by decide) (by simp only [maxLen]; omega) (by omega) (by omega) v1.heap.size rfl ?_
                intro g9 cap9 v2 hO9 hG9 hb9 hlt9
                have A11 := hA10.grown hG9 (fun e => by have := (hglt r e).1; omega) (fun e => by have := (hglt q e).1; omega)
                have hgbg : (Value.slice Ag R.gates.length cg).ownBlock ≠ some gb := fun e => by have := (hglt gb e).2; omega
                have hSv2 := And.intro (hG9.cell hSv1.1 (fun e => hgbg e.symm)) (And.intro (hG9.cell hSv1.2.1 (fun e => hgbg e.symm)) (hG9.cell hSv1.2.2 (fun e => hgbg e.symm)))
                refine hKc.out _ _ hSv2 (fun hHeld => ?_)
                clear hKc Kc
                try simp only [Act.put, List.setIfInBounds_toArray, List.set_cons_zero, List.set_cons_succ]
                refine wpAnyH_take (i := 9) (v := ?vn39) rfl (by kernel_rfl) (by kernel_rfl) (by kernel_rfl) (fun _ _ _ h => h) (Or.inl ⟨by rfl, ?yn39⟩) hHeld ?_
                case yn39 => (intro w' hSw; (try dsimp only at hSw); go_simp); (try with_reducible rfl)
                try simp only [Act.put, List.setIfInBounds_toArray, List.set_cons_zero, List.set_cons_succ]
                refine wpAnyH_take (i := 10) (v := ?vn40) rfl (by kernel_rfl) (by kernel_rfl) (by kernel_rfl) (fun _ _ _ h => h) (Or.inl ⟨by rfl, ?yn40⟩) hHeld ?_
                case yn40 => (intro w' hSw; (try dsimp only at hSw); go_simp); (try with_reducible rfl)
                try simp only [Act.put, List.setIfInBounds_toArray, List.set_cons_zero, List.set_cons_succ]
                refine wpAnyH_take (i := 11) (v := ?vn41) rfl (by kernel_rfl) (by kernel_rfl) (by kernel_rfl) (fun _ _ _ h => h) (Or.inl ⟨by rfl, ?yn41⟩) hHeld ?_
                case yn41 => (intro w' hSw; (try dsimp only at hSw); go_simp); (try with_reducible rfl)
                try simp only [Act.put, List.setIfInBounds_toArray, List.set_cons_zero, List.set_cons_succ]
                have k1 := cell_row A11.row (j := 1) (v := .slice Ag R.gates.length cg) rfl
                have kf1 := frozen_of_row _ _ 1 _ _ A11.row
                have g12 : v2.grownBy (v2.setCell ⟨r, 1, none⟩ (.slice (some ⟨g9, 0, none⟩) (R.gates.length + 1) cap9)) (some r) := grown_setCell v2 ⟨r, 1, none⟩ _
                have A12 : RwAt (v2.setCell ⟨r, 1, none⟩ (.slice (some ⟨g9, 0, none⟩) (R.gates.length + 1) cap9)) r q pv (.slice (some ⟨g9, 0, none⟩) (R.gates.length + 1) cap9) (.slice Aa na ca) { R with seen := upd R.seen v true, lits := R.lits + l.length, gates := R.gates ++ [⟨(v : Int), (kd : Int), l⟩] } := A11.put 1 _ rfl rfl
                have hSv3 := And.intro (g12.cell hSv2.1 (by intro e; injection e with e; exact hgbr e)) (And.intro (g12.cell hSv2.2.1 (by intro e; injection e with e; exact hgbr e)) (g12.cell hSv2.2.2 (by intro e; injection e with e; exact hgbr e)))
                refine wpAnyH_ready (rs := [12]) (by kernel_rfl) (by simp) ?_
                refine AllReadyH.cons rfl (fun Kc hKc => ?_) AllReadyH.nil
                go_simp
                refine hKc.out _ _ hSv3 (fun hHeld => ?_)
                clear hKc Kc
                try simp only [Act.put, List.setIfInBounds_toArray, List.set_cons_zero, List.set_cons_succ]
                refine wpAnyH_done (by kernel_rfl) ?_ _
                have gB := GA.pushG (n := wL.heap.size) (x := ⟨(v : Int), (kd : Int), l⟩) (w1 := v2) gA ⟨by unfold I64; simp only []; omega, by simp only []; omega, by simp only []; omega⟩ (ints_of_own hl10 (fun y hy => by have := hx y hy; unfold I64; omega) (by omega)) (fun b e => hl10.lt b e) hn1L (fun b e => (hglt b e).2) (fun b e => (halt b e).2) (fun xs' h' => by rw [own_unique h' own1]; exact hO9) hG9 (fun b e => by cases e; exact hb9.imp id (fun e => Nat.le_of_eq e.symm))
                have gC := gB.keep g12.size (fun k h1 h2 => g12.block k h2 (by intro e; injection e with e; omega))
                have tC := gC.ats
                rw [HNA.out] at tC
                have hv3s : wL.heap.size ≤ (v2.setCell ⟨r, 1, none⟩ (.slice (some ⟨g9, 0, none⟩) (R.gates.length + 1) cap9)).heap.size := by have := g12.size; have := hG9.size; omega
                have hF12 : Fr2 n0 r q w (v2.setCell ⟨r, 1, none⟩ (.slice (some ⟨g9, 0, none⟩) (R.gates.length + 1) cap9)) := (((hF9.trans (Fr2.below (hBa.mono (by omega)))).grown (by omega) hG9 (fun k e => .inr (.inr (by have := (hglt k e).1; omega))))).grown (by have := hG9.size; omega) g12 (fun k e => by cases e; exact .inl rfl)
                have hPre12 : PreAt (v2.setCell ⟨r, 1, none⟩ (.slice (some ⟨g9, 0, none⟩) (R.gates.length + 1) cap9)) n0 n1 pv R.pre := hPre10.keep (fun k h1 h2 => (g12.block k (by have := hG9.size; omega) (by intro e; injection e with e; omega)).trans (hG9.block k (by omega) (fun e => by have := (hglt k e.symm).1; omega)))
                clear hHeld hSv1 hSv2 hSv3 k1 kf1
                generalize v2.setCell ⟨r, 1, none⟩ (.slice (some ⟨g9, 0, none⟩) (R.gates.length + 1) cap9) = v3 at *
                have k7 := cell_row A12.row (j := 7) (v := .slice Aa na ca) rfl
                have HX7 : Hid (∀ v5, v3.grownBy v5 (Value.slice Aa na ca).ownBlock → RwAt v5 r q pv (.slice (some ⟨g9, 0, none⟩) (R.gates.length + 1) cap9) (.slice Aa na ca) { R with seen := upd R.seen v true, lits := R.lits + l.length, gates := R.gates ++ [⟨(v : Int), (kd : Int), l⟩] } ∧ v5.cell? ⟨r, 7, none⟩ = some (.slice Aa na ca) ∧ v5.frozen? ⟨r, 7, none⟩ = false) := hid (fun v5 hG => by
                  have A13 := A12.grown hG (fun e => by have := (halt r e).1; omega) (fun e => by have := (halt q e).1; omega)
                  exact ⟨A13, cell_row A13.row (j := 7) rfl, frozen_of_row _ _ 7 _ _ A13.row⟩)
                have hn13 : n1 ≤ v3.heap.size := by omega
                have hb88 : (na + 1) * 8 ≤ 140737488355328 := by omega
                have HGC := hid gC
                have HPR := hid hPre12
                clear gA gB gC hGA9 hA9 hA10 A11 hl9 hl10 t29 t39 t40 own1 hPre9 hPre10 hPre12 c1
                go_wp2_with (first | (at_builtin; refine append_one n1 rfl _ _ 48 3 (.int .i64 0) 1 8 rfl Tryz.underlying48 info3 rfl (by decide) (by decide) (.slice Aa na ca) na (nums (natI (R.outAt :: R.at_))) #[.int .i64 (no : Int)] rfl rfl rfl (by intro u hu; simp at hu; subst hu; rfl) tC hn13 hb88 ?_; intro ga cap4 v5 hO5 hG5 hg5 hb5 hlt5; obtain ⟨A13, c7, f7⟩ := HX7.out v5 hG5) | fail)
                go_ret
                unfold AddPost
                rw [HP.out]
                have g14 : v5.grownBy (v5.setCell ⟨r, 7, none⟩ (.slice (some ⟨ga, 0, none⟩) (na + 1) cap4)) (some r) := grown_setCell v5 ⟨r, 7, none⟩ _
                have A14 : RwAt (v5.setCell ⟨r, 7, none⟩ (.slice (some ⟨ga, 0, none⟩) (na + 1) cap4)) r q pv (.slice (some ⟨g9, 0, none⟩) (R.gates.length + 1) cap9) (.slice (some ⟨ga, 0, none⟩) (na + 1) cap4) { R with seen := upd R.seen v true, lits := R.lits + l.length, gates := R.gates ++ [⟨(v : Int), (kd : Int), l⟩], at_ := R.at_ ++ [no] } := A13.put 7 _ rfl rfl
                have hk := HR.out.ok
                have gD := GA.pushA (w1 := v5) (av1 := .slice (some ⟨ga, 0, none⟩) (na + 1) cap4) no HGC.out (by rw [HNA.out]; exact hO5) hG5 (fun b e => by cases e; exact hg5)
                have h5s := hG5.size
                have h14s := g14.size
                refine ⟨rfl, (hF12.grown (by omega) hG5 (fun k e => .inr (.inr (by have := (halt k e).1; omega)))).grown (by omega) g14 (fun k e => by cases e; exact .inl rfl), fun _ => ⟨hrn, hqn, by omega, ⟨hk.vars, hk.nv, by have := HOV.out; simp only []; omega, hk.pre, Nat.le_succ_of_le hk.prel, ?_, ?_, ?_, hk.out⟩, _, _, _, A14, .inr ⟨HD.out, n1, hn01, by omega, ?_, ?_⟩⟩⟩
                · have := hk.gl; simp only [List.length_append, List.length_cons, List.length_nil]; omega
                · have := hk.al; simp only [List.length_append, List.length_cons, List.length_nil]; omega
                · intro g hg
                  rcases List.mem_append.1 hg with hg | hg
                  · exact hk.gs g hg
                  · rw [List.mem_singleton.1 hg]
                    exact ⟨⟨by simp only []; omega, by simp only []; omega⟩, ⟨by simp only []; omega, by simp only []; omega⟩, hx⟩
                · exact HPR.out.keep (fun k h1 h2 => (g14.block k (by omega) (by intro e; injection e with e; omega)).trans (hG5.block k (by omega) (fun e => by have := (halt k e.symm).1; omega)))
                · exact gD.keep g14.size (fun k h1 h2 => g14.block k h2 (by intro e; injection e with e; omega))
              · skip
                obtain ⟨v1, hv1, hBa, hza, qa⟩ := hAl2.out v0
                go_simp
                refine hKc.out _ _ (hSB.out v1 hBa) (fun hHeld => ?_)
                clear hKc Kc
                try simp only [Act.put, List.setIfInBounds_toArray, List.set_cons_zero, List.set_cons_succ]
                have c1v := keeps_below hBa _ _ c1
                refine wpAnyH_ready (rs := [5]) (by kernel_rfl) (by simp) ?_
                refine AllReadyH.cons rfl (fun Kc hKc => ?_) AllReadyH.nil
                go_simp
                refine hKc.out _ _ (hSB.out v1 hBa) (fun hHeld => ?_)
                clear hKc Kc
                try simp only [Act.put, List.setIfInBounds_toArray, List.set_cons_zero, List.set_cons_succ]
                have gA := hGA9.keep hBa.size (fun k _ h => hBa.block k h)
                have own1 := t29.kept (grown_of_below hBa none) (by cases (Value.slice Ag R.gates.length cg).ownBlock <;> simp)
                have hA10 := hA9.below hBa
                have hSv1 := hSB.out v1 hBa
                have hl10 := hl9.kept (grown_of_below hBa none) (by cases (Value.slice A l.length c).ownBlock <;> simp)
                have t40 := t39.kept (grown_of_below hBa none) (by cases (Value.slice Aa na ca).ownBlock <;> simp)
                have hPre10 : PreAt v1 n0 n1 pv R.pre := hPre9.keep (fun k h1 h2 => hBa.block k (by omega))
                refine wpAnyH_ready (rs := [8]) (by kernel_rfl) (by simp) ?_
                refine AllReadyH.cons rfl (fun Kc hKc => ?_) AllReadyH.nil
                obtain ⟨i0, hi0, hzz⟩ := Option.map_eq_some_iff.1 info70
                simp only [Prod.mk.injEq] at hzz
                obtain ⟨hz0', hz1', hz2'⟩ := hzz
                refine step_append_lies (w := v1) (by rfl) _ _ 38 (by rfl) n1 88 i0 (.agg #[.int .i64 0, .int .u8 0, .slice none 0 0]) 3 40 Tryz.underlying38 hi0 hz0' hz1' hz2' rfl (by decide) (.slice Ag R.gates.length cg) R.gates.length (gcells ts0) (by rfl) own1 ⟨v0.heap.size, 0, none⟩ 1 1 [.int .i64 (v : Int), .int .u8 (kd : Int), .slice A l.length c] (by rfl) rfl (World.news_of_block qa) (by intro u hu; simp at hu; rcases hu with rfl | rfl | rfl <;> rfl) (by decide) (by simp only [maxLen]; omega) (by omega) (by omega) v1.heap.size rfl ?_
                intro g9 cap9 v2 hO9 hG9 hb9 hlt9
                have A11 := hA10.grown hG9 (fun e => by have := (hglt r e).1; omega) (fun e => by have := (hglt q e).1; omega)
                have hgbg : (Value.slice Ag R.gates.length cg).ownBlock ≠ some gb := fun e => by have := (hglt gb e).2; omega
                have hSv2 := And.intro (hG9.cell hSv1.1 (fun e => hgbg e.symm)) (And.intro (hG9.cell hSv1.2.1 (fun e => hgbg e.symm)) (hG9.cell hSv1.2.2 (fun e => hgbg e.symm)))
                refine hKc.out _ _ hSv2 (fun hHeld => ?_)
                clear hKc Kc
                try simp only [Act.put, List.setIfInBounds_toArray, List.set_cons_zero, List.set_cons_succ]
                refine wpAnyH_take (i := 9) (v := ?vn42) rfl (by kernel_rfl) (by kernel_rfl) (by kernel_rfl) (fun _ _ _ h => h) (Or.inl ⟨by rfl, ?yn42⟩) hHeld ?_
                case yn42 => (intro w' hSw; (try dsimp only at hSw); go_simp); (try with_reducible rfl)
                try simp only [Act.put, List.setIfInBounds_toArray, List.set_cons_zero, List.set_cons_succ]
                refine wpAnyH_take (i := 10) (v := ?vn43) rfl (by kernel_rfl) (by kernel_rfl) (by kernel_rfl) (fun _ _ _ h => h) (Or.inl ⟨by rfl, ?yn43⟩) hHeld ?_
                case yn43 => (intro w' hSw; (try dsimp only at hSw); go_simp); (try with_reducible rfl)
                try simp only [Act.put, List.setIfInBounds_toArray, List.set_cons_zero, List.set_cons_succ]
                refine wpAnyH_take (i := 11) (v := ?vn44) rfl (by kernel_rfl) (by kernel_rfl) (by kernel_rfl) (fun _ _ _ h => h) (Or.inl ⟨by rfl, ?yn44⟩) hHeld ?_
                case yn44 => (intro w' hSw; (try dsimp only at hSw); go_simp); (try with_reducible rfl)
                try simp only [Act.put, List.setIfInBounds_toArray, List.set_cons_zero, List.set_cons_succ]
                have k1 := cell_row A11.row (j := 1) (v := .slice Ag R.gates.length cg) rfl
                have kf1 := frozen_of_row _ _ 1 _ _ A11.row
                have g12 : v2.grownBy (v2.setCell ⟨r, 1, none⟩ (.slice (some ⟨g9, 0, none⟩) (R.gates.length + 1) cap9)) (some r) := grown_setCell v2 ⟨r, 1, none⟩ _
                have A12 : RwAt (v2.setCell ⟨r, 1, none⟩ (.slice (some ⟨g9, 0, none⟩) (R.gates.length + 1) cap9)) r q pv (.slice (some ⟨g9, 0, none⟩) (R.gates.length + 1) cap9) (.slice Aa na ca) { R with seen := upd R.seen v true, lits := R.lits + l.length, gates := R.gates ++ [⟨(v : Int), (kd : Int), l⟩] } := A11.put 1 _ rfl rfl
                have hSv3 := And.intro (g12.cell hSv2.1 (by intro e; injection e with e; exact hgbr e)) (And.intro (g12.cell hSv2.2.1 (by intro e; injection e with e; exact hgbr e)) (g12.cell hSv2.2.2 (by intro e; injection e with e; exact hgbr e)))
                refine wpAnyH_ready (rs := [12]) (by kernel_rfl) (by simp) ?_
                refine AllReadyH.cons rfl (fun Kc hKc => ?_) AllReadyH.nil
                go_simp
                refine hKc.out _ _ hSv3 (fun hHeld => ?_)
                clear hKc Kc
                try simp only [Act.put, List.setIfInBounds_toArray, List.set_cons_zero, List.set_cons_succ]
                refine wpAnyH_done (by kernel_rfl) ?_ _
                have gB := GA.pushG (n := wL.heap.size) (x := ⟨(v : Int), (kd : Int), l⟩) (w1 := v2) gA ⟨by unfold I64; simp only []; omega, by simp only []; omega, by simp only []; omega⟩ (ints_of_own hl10 (fun y hy => by have := hx y hy; unfold I64; omega) (by omega)) (fun b e => hl10.lt b e) hn1L (fun b e => (hglt b e).2) (fun b e => (halt b e).2) (fun xs' h' => by rw [own_unique h' own1]; exact hO9) hG9 (fun b e => by cases e; exact hb9.imp id (fun e => Nat.le_of_eq e.symm))
                have gC := gB.keep g12.size (fun k h1 h2 => g12.block k h2 (by intro e; injection e with e; omega))
                have tC := gC.ats
                rw [HNA.out] at tC
                have hv3s : wL.heap.size ≤ (v2.setCell ⟨r, 1, none⟩ (.slice (some ⟨g9, 0, none⟩) (R.gates.length + 1) cap9)).heap.size := by have := g12.size; have := hG9.size; omega
                have hF12 : Fr2 n0 r q w (v2.setCell ⟨r, 1, none⟩ (.slice (some ⟨g9, 0, none⟩) (R.gates.length + 1) cap9)) := (((hF9.trans (Fr2.below (hBa.mono (by omega)))).grown (by omega) hG9 (fun k e => .inr (.inr (by have := (hglt k e).1; omega))))).grown (by have := hG9.size; omega) g12 (fun k e => by cases e; exact .inl rfl)
                have hPre12 : PreAt (v2.setCell ⟨r, 1, none⟩ (.slice (some ⟨g9, 0, none⟩) (R.gates.length + 1) cap9)) n0 n1 pv R.pre := hPre10.keep (fun k h1 h2 => (g12.block k (by have := hG9.size; omega) (by intro e; injection e with e; omega)).trans (hG9.block k (by omega) (fun e => by have := (hglt k e.symm).1; omega)))
                clear hHeld hSv1 hSv2 hSv3 k1 kf1
                generalize v2.setCell ⟨r, 1, none⟩ (.slice (some ⟨g9, 0, none⟩) (R.gates.length + 1) cap9) = v3 at *
                have k7 := cell_row A12.row (j := 7) (v := .slice Aa na ca) rfl
                have HX7 : Hid (∀ v5, v3.grownBy v5 (Value.slice Aa na ca).ownBlock → RwAt v5 r q pv (.slice (some ⟨g9, 0, none⟩) (R.gates.length + 1) cap9) (.slice Aa na ca) { R with seen := upd R.seen v true, lits := R.lits + l.length, gates := R.gates ++ [⟨(v : Int), (kd : Int), l⟩] } ∧ v5.cell? ⟨r, 7, none⟩ = some (.slice Aa na ca) ∧ v5.frozen? ⟨r, 7, none⟩ = false) := hid (fun v5 hG => by
                  have A13 := A12.grown hG (fun e => by have := (halt r e).1; omega) (fun e => by have := (halt q e).1; omega)
                  exact ⟨A13, cell_row A13.row (j := 7) rfl, frozen_of_row _ _ 7 _ _ A13.row⟩)
                have hn13 : n1 ≤ v3.heap.size := by omega
                have hb88 : (na + 1) * 8 ≤ 140737488355328 := by omega
                have HGC := hid gC
                have HPR := hid hPre12
                clear gA gB gC hGA9 hA9 hA10 A11 hl9 hl10 t29 t39 t40 own1 hPre9 hPre10 hPre12 c1
                go_wp2_with (first | (at_builtin; refine append_one n1 rfl _ _ 48 3 (.int .i64 0) 1 8 rfl Tryz.underlying48 info3 rfl (by decide) (by decide) (.slice Aa na ca) na (nums (natI (R.outAt :: R.at_))) #[.int .i64 (no : Int)] rfl rfl rfl (by intro u hu; simp at hu; subst hu; rfl) tC hn13 hb88 ?_; intro ga cap4 v5 hO5 hG5 hg5 hb5 hlt5; obtain ⟨A13, c7, f7⟩ := HX7.out v5 hG5) | fail)
                go_ret
                unfold AddPost
                rw [HP.out]
                have g14 : v5.grownBy (v5.setCell ⟨r, 7, none⟩ (.slice (some ⟨ga, 0, none⟩) (na + 1) cap4)) (some r) := grown_setCell v5 ⟨r, 7, none⟩ _
                have A14 : RwAt (v5.setCell ⟨r, 7, none⟩ (.slice (some ⟨ga, 0, none⟩) (na + 1) cap4)) r q pv (.slice (some ⟨g9, 0, none⟩) (R.gates.length + 1) cap9) (.slice (some ⟨ga, 0, none⟩) (na + 1) cap4) { R with seen := upd R.seen v true, lits := R.lits + l.length, gates := R.gates ++ [⟨(v : Int), (kd : Int), l⟩], at_ := R.at_ ++ [no] } := A13.put 7 _ rfl rfl
                have hk := HR.out.ok
                have gD := GA.pushA (w1 := v5) (av1 := .slice (some ⟨ga, 0, none⟩) (na + 1) cap4) no HGC.out (by rw [HNA.out]; exact hO5) hG5 (fun b e => by cases e; exact hg5)
                have h5s := hG5.size
                have h14s := g14.size
                refine ⟨rfl, (hF12.grown (by omega) hG5 (fun k e => .inr (.inr (by have := (halt k e).1; omega)))).grown (by omega) g14 (fun k e => by cases e; exact .inl rfl), fun _ => ⟨hrn, hqn, by omega, ⟨hk.vars, hk.nv, by have := HOV.out; simp only []; omega, hk.pre, Nat.le_succ_of_le hk.prel, ?_, ?_, ?_, hk.out⟩, _, _, _, A14, .inr ⟨HD.out, n1, hn01, by omega, ?_, ?_⟩⟩⟩
                · have := hk.gl; simp only [List.length_append, List.length_cons, List.length_nil]; omega
                · have := hk.al; simp only [List.length_append, List.length_cons, List.length_nil]; omega
                · intro g hg
                  rcases List.mem_append.1 hg with hg | hg
                  · exact hk.gs g hg
                  · rw [List.mem_singleton.1 hg]
                    exact ⟨⟨by simp only []; omega, by simp only []; omega⟩, ⟨by simp only []; omega, by simp only []; omega⟩, hx⟩
                · exact HPR.out.keep (fun k h1 h2 => (g14.block k (by omega) (by intro e; injection e with e; omega)).trans (hG5.block k (by omega) (fun e => by have := (halt k e.symm).1; omega)))
                · exact gD.keep g14.size (fun k h1 h2 => g14.block k h2 (by intro e; injection e with e; omega))
    · skip
      obtain ⟨w3, hwa, hBa, hza, q3⟩ := hAl.out wq
      have hB3 := below_then hBd hBd.size hBa
      go_simp
      refine hKc.out _ _ (hSK.out _ hB3) (fun hHeld => ?_)
      clear hKc Kc
      try simp only [Act.put, List.setIfInBounds_toArray, List.set_cons_zero, List.set_cons_succ]
      refine wpAnyH_ready (rs := [4]) (by kernel_rfl) (by simp) ?_
      refine AllReadyH.cons rfl (fun Kc hKc => ?_) AllReadyH.nil
      go_simp
      go_at_call 108
      refine (CK w3).mono ?_
      rintro e w4 ⟨rfl, hBk⟩
      have hB4 := below_then hB3 hB3.size hBk
      have q4 := row_below q3 hBk
      go_wp2_with fail
      refine hKc.out _ _ (hSK.out _ hB4) (fun hHeld => ?_)
      clear hKc Kc
      try simp only [Act.put, List.setIfInBounds_toArray, List.set_cons_zero, List.set_cons_succ]
      refine wpAnyH_take (i := 7) (v := ?vn8) rfl (by kernel_rfl) (by kernel_rfl) (by kernel_rfl) (fun _ _ _ h => h) (Or.inl ⟨by rfl, ?yn8⟩) hHeld ?_
      case yn8 => (intro w' hSw; (try dsimp only at hSw); go_simp); (try with_reducible rfl)
      try simp only [Act.put, List.setIfInBounds_toArray, List.set_cons_zero, List.set_cons_succ]
      obtain ⟨f0, b0, f1, b1, f2, b2, rr, gg⟩ := put25 q4 (.int .i64 (v : Int)) (.int .u8 (kd : Int)) (.slice A l.length c)
      have hgbn : w1.heap.size ≤ wq.heap.size := by first | exact hBd.size | exact HGB
      have hS5 := hSK.out _ (hB4.grown gg hB4.size (fun k e => by injection e with e; omega))
      refine wpAnyH_ready (rs := [9]) (by kernel_rfl) (by simp) ?_
      refine AllReadyH.cons rfl (fun Kc hKc => ?_) AllReadyH.nil
      go_simp
      refine hKc.out _ _ hS5 (fun hHeld => ?_)
      clear hKc Kc
      try simp only [Act.put, List.setIfInBounds_toArray, List.set_cons_zero, List.set_cons_succ]
      refine wpAnyH_done (by kernel_rfl) ?_ _
      have hB5 := hB4.grown gg hB4.size (fun k e => by injection e with e; omega)
      generalize ((w4.setCell ⟨wq.heap.size, 0, none⟩ (.int .i64 (v : Int))).setCell ⟨wq.heap.size, 1, none⟩ (.int .u8 (kd : Int))).setCell ⟨wq.heap.size, 2, none⟩ (.slice A l.length c) = w5 at *
      generalize wq.heap.size = gb at *
      clear f0 b0 f1 b1 f2 b2 gg hS5 hHeld z0 c6 hw1
      have g0 := cell_row rr (j := 0) (v := .int .i64 (v : Int)) rfl
      have g1 := cell_row rr (j := 1) (v := .int .u8 (kd : Int)) rfl
      have g2 := cell_row rr (j := 2) (v := .slice A l.length c) rfl
      have y1 := keeps_below hB5 _ _ z1
      by_cases h3 : kd = 3
      · subst h3
        by_cases hn2 : l.length = 2
        · have hz2 : ((l.length : Int) != 2) = false := bne_eq_false_iff_eq.2 (by omega)
          have HAR : Hid (¬ ((3 = 3 ∧ l.length ≠ 2) ∨ (3 = 4 ∧ l.length ≠ 3))) := hid (by omega)
          clear hn2
          go_wp2_with fail
          have hA5 := hA1.below hB5
          have hF5 := hF1.trans (Fr2.below (hB5.mono hn1))
          have y1 := keeps_below hB5 _ _ z1
          have y2 := keeps_below hB5 _ _ z2
          have c3 := cell_row hA5.row (j := 3) (v := .slice (some ⟨q, 0, none⟩) 65537 65537) rfl
          have cs := hA5.seen.cell v (by omega)
          have hgbr : gb ≠ r := by omega
          have hgbq : gb ≠ q := by omega
          cases hS : R.seen v with
          | true =>
            rw [hS] at cs
            have HP := hid (show addL R no (.gate v 3 l) = (7, R) by
              rw [addL_gate, if_neg (by rw [HD.out]; simp), if_neg (by simpa using HAR.out), if_pos (by rw [Int.toNat_natCast]; exact hS)])
            clear hS
            go_wp2_with fail
            go_quiet (fail)
            go_wp2_with fail
            go_ret
            unfold AddPost
            rw [HP.out]
            exact ⟨rfl, hF5.trans (Fr2.below (below_drewN (Below.refl _ _) _)), fun h => absurd h (by simp)⟩
          | false =>
            rw [hS] at cs
            have HS := hid hS
            clear hS
            go_wp2_with fail
            go_quiet (fail)
            go_wp2_with fail
            have hAd : RwAt (w5.drewN nq) r q pv gv av R := hA5.heap rfl rfl
            have hBd5 : Below w1.heap.size w1 (w5.drewN nq) := below_drewN hB5 _
            have yd2 : (w5.drewN nq).cell? ⟨w.heap.size, 2, none⟩ = some (.int .i64 (v : Int)) := y2
            have cd3 : (w5.drewN nq).cell? ⟨r, 3, none⟩ = some (.slice (some ⟨q, 0, none⟩) 65537 65537) := c3
            have rrd : (w5.drewN nq).heap[gb]? = some (.cells #[.int .i64 (v : Int), .int .u8 (3 : Int), .slice A l.length c] 88 (0, 0)) := rr
            have hFd : Fr2 n0 r q w (w5.drewN nq) := hF5.trans (Fr2.below (below_drewN (Below.refl _ _) _))
            clear cs y1 y2 c3 g0 g1 g2 rr hA5 hB5 hF5
            generalize w5.drewN nq = w6 at *
            have l1 := fun p => cell_since yd2 p
            have l2 := fun p => cell_since cd3 p
            refine region_tail 7 (by kernel_rfl) (by kernel_rfl) ?_
            simp only [List.take_succ_cons, List.take_zero, List.drop_succ_cons, List.drop_zero]
            repeat (first | go_big_quiet_step (fail) | quiet_step (fail))
            refine wpQuiet_nil ?_
            rintro W ⟨pw, hW⟩
            have hBW : Below w6.heap.size w6 W := by rw [hW]; exact since_below w6 pw
            have hAW := hAd.below hBW
            have csW := hAW.seen.cell v (by omega)
            have cfW := hAW.seen.free v
            have hA7 : RwAt (W.setCell ⟨q, v, none⟩ (.bool true)) r q pv gv av { R with seen := upd R.seen v true } :=
              ⟨(heap_setCell_other W ⟨q, v, none⟩ r _ hAW.ne).trans hAW.row, hAW.seen.store v true, hAW.ne⟩
            have gq : W.grownBy (W.setCell ⟨q, v, none⟩ (.bool true)) (some q) := grown_setCell W ⟨q, v, none⟩ _
            obtain ⟨w7, hw7⟩ : ∃ w7, W.setCell ⟨q, v, none⟩ (.bool true) = w7 := ⟨_, rfl⟩
            rw [hw7] at hA7 gq
            have rr7 := row_grown (row_below rrd hBW) gq (by intro e; injection e with e; exact hgbq e.symm)
            have hlv : R.lits ≤ 200000 := HR.out.ok.lits
            have c5 := cell_row hA7.row (j := 5) (v := .int .i64 (R.lits : Int)) rfl
            have f5 := frozen_of_row _ _ 5 _ _ hA7.row
            have hwl : IntKind.i64.wrap ((R.lits : Int) + (l.length : Int)) = (R.lits : Int) + (l.length : Int) := IntWalk.i64_in _ (by omega)
            have hA8 : RwAt (w7.setCell ⟨r, 5, none⟩ (.int .i64 ((R.lits : Int) + (l.length : Int)))) r q pv gv av { R with seen := upd R.seen v true, lits := R.lits + l.length } := hA7.put 5 _ rfl (by simp [stg])
            have gr8 : w7.grownBy (w7.setCell ⟨r, 5, none⟩ (.int .i64 ((R.lits : Int) + (l.length : Int)))) (some r) := grown_setCell w7 ⟨r, 5, none⟩ _
            obtain ⟨w8, hw8⟩ : ∃ w8, w7.setCell ⟨r, 5, none⟩ (.int .i64 ((R.lits : Int) + (l.length : Int))) = w8 := ⟨_, rfl⟩
            rw [hw8] at hA8 gr8
            have rr8 := row_grown rr7 gr8 (by intro e; injection e with e; exact hgbr e.symm)
            have hFs := hFd.size
            have hBs := hBW.size
            have hgs := gq.size
            have h8s := gr8.size
            have hn6 : n0 ≤ w6.heap.size := by omega
            have hF8 := ((hFd.trans (Fr2.below (hBW.mono hn6))).grown (by omega) gq (fun k e => by cases e; exact .inr (.inl rfl))).grown (by omega) gr8 (fun k e => by cases e; exact .inl rfl)
            have u5 := cell_row hA8.row (j := 5) (v := .int .i64 (((R.lits + l.length : Nat)) : Int)) rfl
            rw [Int.natCast_add] at u5
            have G0 := cell_row rr8 (j := 0) (v := .int .i64 (v : Int)) rfl
            have G1 := cell_row rr8 (j := 1) (v := .int .u8 (3 : Int)) rfl
            have G2 := cell_row rr8 (j := 2) (v := .slice A l.length c) rfl
            clear l1 l2 hW yd2 cd3
            by_cases hov : 200000 < R.lits + l.length
            · have HP := hid (show addL R no (.gate v 3 l) = (3, R) by
                rw [addL_gate, if_neg (by rw [HD.out]; simp), if_neg (by simpa using HAR.out), if_neg (by rw [Int.toNat_natCast, HS.out]; simp), if_pos hov])
              have hov2 : (200000 : Int) < (R.lits : Int) + (l.length : Int) := by omega
              clear hov
              go_wp2_with fail
              go_ret
              unfold AddPost
              rw [HP.out]
              exact ⟨rfl, hF8, fun h => absurd h (by simp)⟩
            · have hov2 : decide ((200000 : Int) < (R.lits : Int) + (l.length : Int)) = false := decide_eq_false (by omega)
              have HOV := hid hov
              clear hov
              have HP := hid (show addL R no (.gate v 3 l) = (0, { R with seen := upd R.seen v true, lits := R.lits + l.length, gates := R.gates ++ [⟨v, 3, l⟩], at_ := R.at_ ++ [no] }) by
                rw [addL_gate, if_neg (by rw [HD.out]; simp), if_neg (by simpa using HAR.out), if_neg (by rw [Int.toNat_natCast, HS.out]; simp), if_neg HOV.out, Int.toNat_natCast]
                try rfl)
              obtain ⟨n1, hn01, hn1L, hPre, hGA⟩ : ∃ n1, n0 ≤ n1 ∧ n1 ≤ wL.heap.size ∧ PreAt wL n0 n1 pv R.pre ∧ GA wL n1 gv av R.gates (R.outAt :: R.at_) := by
                rcases HPH.out with ⟨h0, _⟩ | ⟨_, n1, h1, h2, h3, h4⟩
                · rw [HD.out] at h0; cases h0
                · exact ⟨n1, h1, h2, h3, h4⟩
              have hLw1 : wL.heap.size ≤ w1.heap.size := hBL1.size
              have h16 := hBd5.size
              have hK8 : ∀ k, n0 ≤ k → k < wL.heap.size → w8.heap[k]? = wL.heap[k]? := fun k h1 h2 => by
                rw [gr8.block k (by omega) (by intro e; injection e with e; omega), gq.block k (by omega) (by intro e; injection e with e; omega), hBW.block k (by omega), hBd5.block k (by omega)]
                exact hBL1.block k h2
              have hGA8 := hGA.keep (w' := w8) (by omega) (fun k h1 h2 => hK8 k (by omega) h2)
              have hPre8 : PreAt w8 n0 n1 pv R.pre := hPre.keep (fun k h1 h2 => hK8 k h1 (by omega))
              have hl8 : w8.ownsRow wL.heap.size 3 1 (.slice A l.length c) l.length (nums l) := row_kept hl1 (fun k h1 h2 _ => by
                rw [gr8.block k (by omega) (by intro e; injection e with e; omega), gq.block k (by omega) (by intro e; injection e with e; omega), hBW.block k (by omega), hBd5.block k h2])
              have hglt : ∀ b, gv.ownBlock = some b → n1 ≤ b ∧ b < wL.heap.size := fun b e => by
                obtain ⟨ts, L, k1, k2, k3, k4, k5, k6⟩ := hGA
                exact k2.lt b e
              have halt : ∀ b, av.ownBlock = some b → n1 ≤ b ∧ b < wL.heap.size := fun b e => hGA.ats.lt b e
              obtain ⟨ts0, L0, t1, t2, t3, t4, t5, t6⟩ := hGA8
              obtain ⟨Ag, cg, rfl⟩ := own_shape t2
              obtain ⟨na, hna⟩ : ∃ na, (R.outAt :: R.at_).length = na := ⟨_, rfl⟩
              have t3' := t3
              rw [hna] at t3'
              obtain ⟨Aa, ca, rfl⟩ := own_shape t3'
              have HNA := hid hna
              have hnal : na ≤ 4194306 := by have h1 := HR.out.ok.gl; have h2 := HR.out.ok.al; simp only [List.length_cons] at hna; omega
              clear hna
              have hGA8' : GA w8 n1 (.slice Ag R.gates.length cg) (.slice Aa na ca) R.gates (R.outAt :: R.at_) := ⟨ts0, L0, t1, t2, t3, t4, t5, t6⟩
              have c1 : w8.drew.cell? ⟨r, 1, none⟩ = some (.slice Ag R.gates.length cg) := cell_row hA8.row (j := 1) rfl
              have hA9 : RwAt w8.drew r q pv (.slice Ag R.gates.length cg) (.slice Aa na ca) { R with seen := upd R.seen v true, lits := R.lits + l.length } := hA8.heap rfl rfl
              have hGA9 : GA w8.drew n1 (.slice Ag R.gates.length cg) (.slice Aa na ca) R.gates (R.outAt :: R.at_) := hGA8'.keep (Nat.le_refl _) (fun _ _ _ => rfl)
              have hPre9 : PreAt w8.drew n0 n1 pv R.pre := hPre8.keep (fun _ _ _ => rfl)
              have hl9 : w8.drew.ownsRow wL.heap.size 3 1 (.slice A l.length c) l.length (nums l) := hl8
              have t39 : w8.drew.ownsRow n1 3 1 (.slice Aa na ca) na (nums (natI (R.outAt :: R.at_))) := t3'
              have t29 : w8.drew.ownsRow n1 88 3 (.slice Ag R.gates.length cg) R.gates.length (gcells ts0) := t2
              have hS9 : (fun W => W.cell? ⟨gb, 0, none⟩ = some (.int .i64 (v : Int)) ∧ W.cell? ⟨gb, 1, none⟩ = some (.int .u8 (3 : Int)) ∧ W.cell? ⟨gb, 2, none⟩ = some (.slice A l.length c)) w8.drew := ⟨G0, G1, G2⟩
              have hF9 : Fr2 n0 r q w w8.drew := hF8.trans ⟨rfl, rfl, rfl, Nat.le_refl _, fun _ _ _ _ => rfl⟩
              have hn9 : wL.heap.size ≤ w8.drew.heap.size := by show _ ≤ w8.heap.size; omega
              have hgb9 : gb < w8.drew.heap.size := row_lt rr8
              have hgL : R.gates.length ≤ 4194305 := by have := HR.out.ok.gl; omega
              have haL : R.at_.length = R.gates.length := HR.out.ok.al
              go_wp2_with fail
              refine wp_region_held_drew (S := (fun W => W.cell? ⟨gb, 0, none⟩ = some (.int .i64 (v : Int)) ∧ W.cell? ⟨gb, 1, none⟩ = some (.int .u8 (3 : Int)) ∧ W.cell? ⟨gb, 2, none⟩ = some (.slice A l.length c))) (by kernel_rfl) hS9 (fun hHeld => ?_)
              clear c5 f5 u5 G0 G1 G2 rr8 hA8 hGA8' hPre8 hl8 t2 t3 t3' t4 t5 t6 hK8 gr8
              generalize w8.drew = v0 at *
              have hSB : Hid (∀ W, Below v0.heap.size v0 W → (fun W => W.cell? ⟨gb, 0, none⟩ = some (.int .i64 (v : Int)) ∧ W.cell? ⟨gb, 1, none⟩ = some (.int .u8 (3 : Int)) ∧ W.cell? ⟨gb, 2, none⟩ = some (.slice A l.length c)) W) := hid (fun W hW => ⟨keeps_below hW _ _ hS9.1, keeps_below hW _ _ hS9.2.1, keeps_below hW _ _ hS9.2.2⟩)
              have hAl2 : Hid (∀ W : World, ∃ w2, W.alloc (.cells #[.int .i64 (v : Int), .int .u8 (3 : Int), .slice A l.length c] 88) = w2 ∧ Below W.heap.size W w2 ∧ w2.heap.size = W.heap.size + 1 ∧ w2.heap[W.heap.size]? = some (.cells #[.int .i64 (v : Int), .int .u8 (3 : Int), .slice A l.length c] 88 (0, 0))) := hid (fun W => by
                obtain ⟨w1, hw1, -, -, hz1, hB1, q1⟩ := new_block W #[.int .i64 (v : Int), .int .u8 (3 : Int), .slice A l.length c] 88
                exact ⟨w1, hw1, hB1, hz1, q1⟩)
              refine wpAnyH_take (i := 0) (v := ?vn45) rfl (by kernel_rfl) (by kernel_rfl) (by kernel_rfl) (fun _ _ _ h => h) (Or.inl ⟨by rfl, ?yn45⟩) hHeld ?_
              case yn45 => (intro w' hSw; (try dsimp only at hSw); go_simp); (try with_reducible rfl)
              try simp only [Act.put, List.setIfInBounds_toArray, List.set_cons_zero, List.set_cons_succ]
              refine wpAnyH_take (i := 1) (v := ?vn46) rfl (by kernel_rfl) (by kernel_rfl) (by kernel_rfl) (fun _ _ _ h => h) (Or.inl ⟨by rfl, ?yn46⟩) hHeld ?_
              case yn46 => (intro w' hSw; (try dsimp only at hSw); go_simp); (try with_reducible rfl)
              try simp only [Act.put, List.setIfInBounds_toArray, List.set_cons_zero, List.set_cons_succ]
              refine wpAnyH_take (i := 2) (v := ?vn47) rfl (by kernel_rfl) (by kernel_rfl) (by kernel_rfl) (fun _ _ _ h => h) (Or.inl ⟨by rfl, ?yn47⟩) hHeld ?_
              case yn47 => (intro w' hSw; (try dsimp only at hSw); go_simp); (try with_reducible rfl)
              try simp only [Act.put, List.setIfInBounds_toArray, List.set_cons_zero, List.set_cons_succ]
              refine wpAnyH_take (i := 3) (v := ?vn48) rfl (by kernel_rfl) (by kernel_rfl) (by kernel_rfl) (fun _ _ _ h => h) (Or.inl ⟨by rfl, ?yn48⟩) hHeld ?_
              case yn48 => (intro w' hSw; (try dsimp only at hSw); go_simp); (try with_reducible rfl)
              try simp only [Act.put, List.setIfInBounds_toArray, List.set_cons_zero, List.set_cons_succ]
              refine wpAnyH_take (i := 4) (v := ?vn49) rfl (by kernel_rfl) (by kernel_rfl) (by kernel_rfl) (fun _ _ _ h => h) (Or.inl ⟨by rfl, ?yn49⟩) hHeld ?_
              case yn49 => (intro w' hSw; (try dsimp only at hSw); go_simp); (try with_reducible rfl)
              try simp only [Act.put, List.setIfInBounds_toArray, List.set_cons_zero, List.set_cons_succ]
              refine wpAnyH_take (i := 6) (v := ?vn50) rfl (by kernel_rfl) (by kernel_rfl) (by kernel_rfl) (fun _ _ _ h => h) (Or.inl ⟨by rfl, ?yn50⟩) hHeld ?_
              case yn50 => (intro w' hSw; (try dsimp only at hSw); go_simp); (try with_reducible rfl)
              try simp only [Act.put, List.setIfInBounds_toArray, List.set_cons_zero, List.set_cons_succ]
              refine wpAnyH_ready (rs := [5,7]) (by kernel_rfl) (by simp) ?_
              refine AllReadyH.cons rfl (fun Kc hKc => ?_) (AllReadyH.cons rfl (fun Kc hKc => ?_) AllReadyH.nil)
              · skip
                go_simp
                refine hKc.out _ _ hS9 (fun hHeld => ?_)
                clear hKc Kc
                try simp only [Act.put, List.setIfInBounds_toArray, List.set_cons_zero, List.set_cons_succ]
                refine wpAnyH_ready (rs := [7]) (by kernel_rfl) (by simp) ?_
                refine AllReadyH.cons rfl (fun Kc hKc => ?_) AllReadyH.nil
                obtain ⟨v1, hv1, hBa, hza, qa⟩ := hAl2.out v0
                go_simp
                refine hKc.out _ _ (hSB.out v1 hBa) (fun hHeld => ?_)
                clear hKc Kc
                try simp only [Act.put, List.setIfInBounds_toArray, List.set_cons_zero, List.set_cons_succ]
                have gA := hGA9.keep hBa.size (fun k _ h => hBa.block k h)
                have own1 := t29.kept (grown_of_below hBa none) (by cases (Value.slice Ag R.gates.length cg).ownBlock <;> simp)
                have hA10 := hA9.below hBa
                have hSv1 := hSB.out v1 hBa
                have hl10 := hl9.kept (grown_of_below hBa none) (by cases (Value.slice A l.length c).ownBlock <;> simp)
                have t40 := t39.kept (grown_of_below hBa none) (by cases (Value.slice Aa na ca).ownBlock <;> simp)
                have hPre10 : PreAt v1 n0 n1 pv R.pre := hPre9.keep (fun k h1 h2 => hBa.block k (by omega))
                refine wpAnyH_ready (rs := [8]) (by kernel_rfl) (by simp) ?_
                refine AllReadyH.cons rfl (fun Kc hKc => ?_) AllReadyH.nil
                obtain ⟨i0, hi0, hzz⟩ := Option.map_eq_some_iff.1 info70
                simp only [Prod.mk.injEq] at hzz
                obtain ⟨hz0', hz1', hz2'⟩ := hzz
                refine step_append_lies (w := v1) (by rfl) _ _ 38 (by rfl) n1 88 i0 (.agg #[.int .i64 0, .int .u8 0, .slice none 0 0]) 3 40 Tryz.underlying38 hi0 hz0' hz1' hz2' rfl (by decide) (.slice Ag R.gates.length cg) R.gates.length (gcells ts0) (by rfl) own1 ⟨v0.heap.size, 0, none⟩ 1 1 [.int .i64 (v : Int), .int .u8 (3 : Int), .slice A l.length c] (by rfl) rfl (World.news_of_block qa) (by intro u hu; simp at hu; rcases hu with rfl | rfl | rfl <;> rfl) (by decide) (by simp only [maxLen]; omega) (by omega) (by omega) v1.heap.size rfl ?_
                intro g9 cap9 v2 hO9 hG9 hb9 hlt9
                have A11 := hA10.grown hG9 (fun e => by have := (hglt r e).1; omega) (fun e => by have := (hglt q e).1; omega)
                have hgbg : (Value.slice Ag R.gates.length cg).ownBlock ≠ some gb := fun e => by have := (hglt gb e).2; omega
                have hSv2 := And.intro (hG9.cell hSv1.1 (fun e => hgbg e.symm)) (And.intro (hG9.cell hSv1.2.1 (fun e => hgbg e.symm)) (hG9.cell hSv1.2.2 (fun e => hgbg e.symm)))
                refine hKc.out _ _ hSv2 (fun hHeld => ?_)
                clear hKc Kc
                try simp only [Act.put, List.setIfInBounds_toArray, List.set_cons_zero, List.set_cons_succ]
                refine wpAnyH_take (i := 9) (v := ?vn51) rfl (by kernel_rfl) (by kernel_rfl) (by kernel_rfl) (fun _ _ _ h => h) (Or.inl ⟨by rfl, ?yn51⟩) hHeld ?_
                case yn51 => (intro w' hSw; (try dsimp only at hSw); go_simp); (try with_reducible rfl)
                try simp only [Act.put, List.setIfInBounds_toArray, List.set_cons_zero, List.set_cons_succ]
                refine wpAnyH_take (i := 10) (v := ?vn52) rfl (by kernel_rfl) (by kernel_rfl) (by kernel_rfl) (fun _ _ _ h => h) (Or.inl ⟨by rfl, ?yn52⟩) hHeld ?_
                case yn52 => (intro w' hSw; (try dsimp only at hSw); go_simp); (try with_reducible rfl)
                try simp only [Act.put, List.setIfInBounds_toArray, List.set_cons_zero, List.set_cons_succ]
                refine wpAnyH_take (i := 11) (v := ?vn53) rfl (by kernel_rfl) (by kernel_rfl) (by kernel_rfl) (fun _ _ _ h => h) (Or.inl ⟨by rfl, ?yn53⟩) hHeld ?_
                case yn53 => (intro w' hSw; (try dsimp only at hSw); go_simp); (try with_reducible rfl)
                try simp only [Act.put, List.setIfInBounds_toArray, List.set_cons_zero, List.set_cons_succ]
                have k1 := cell_row A11.row (j := 1) (v := .slice Ag R.gates.length cg) rfl
                have kf1 := frozen_of_row _ _ 1 _ _ A11.row
                have g12 : v2.grownBy (v2.setCell ⟨r, 1, none⟩ (.slice (some ⟨g9, 0, none⟩) (R.gates.length + 1) cap9)) (some r) := grown_setCell v2 ⟨r, 1, none⟩ _
                have A12 : RwAt (v2.setCell ⟨r, 1, none⟩ (.slice (some ⟨g9, 0, none⟩) (R.gates.length + 1) cap9)) r q pv (.slice (some ⟨g9, 0, none⟩) (R.gates.length + 1) cap9) (.slice Aa na ca) { R with seen := upd R.seen v true, lits := R.lits + l.length, gates := R.gates ++ [⟨(v : Int), (3 : Int), l⟩] } := A11.put 1 _ rfl rfl
                have hSv3 := And.intro (g12.cell hSv2.1 (by intro e; injection e with e; exact hgbr e)) (And.intro (g12.cell hSv2.2.1 (by intro e; injection e with e; exact hgbr e)) (g12.cell hSv2.2.2 (by intro e; injection e with e; exact hgbr e)))
                refine wpAnyH_ready (rs := [12]) (by kernel_rfl) (by simp) ?_
                refine AllReadyH.cons rfl (fun Kc hKc => ?_) AllReadyH.nil
                go_simp
                refine hKc.out _ _ hSv3 (fun hHeld => ?_)
                clear hKc Kc
                try simp only [Act.put, List.setIfInBounds_toArray, List.set_cons_zero, List.set_cons_succ]
                refine wpAnyH_done (by kernel_rfl) ?_ _
                have gB := GA.pushG (n := wL.heap.size) (x := ⟨(v : Int), (3 : Int), l⟩) (w1 := v2) gA ⟨by unfold I64; simp only []; omega, by simp only []; omega, by simp only []; omega⟩ (ints_of_own hl10 (fun y hy => by have := hx y hy; unfold I64; omega) (by omega)) (fun b e => hl10.lt b e) hn1L (fun b e => (hglt b e).2) (fun b e => (halt b e).2) (fun xs' h' => by rw [own_unique h' own1]; exact hO9) hG9 (fun b e => by cases e; exact hb9.imp id (fun e => Nat.le_of_eq e.symm))
                have gC := gB.keep g12.size (fun k h1 h2 => g12.block k h2 (by intro e; injection e with e; omega))
                have tC := gC.ats
                rw [HNA.out] at tC
                have hv3s : wL.heap.size ≤ (v2.setCell ⟨r, 1, none⟩ (.slice (some ⟨g9, 0, none⟩) (R.gates.length + 1) cap9)).heap.size := by have := g12.size; have := hG9.size; omega
                have hF12 : Fr2 n0 r q w (v2.setCell ⟨r, 1, none⟩ (.slice (some ⟨g9, 0, none⟩) (R.gates.length + 1) cap9)) := (((hF9.trans (Fr2.below (hBa.mono (by omega)))).grown (by omega) hG9 (fun k e => .inr (.inr (by have := (hglt k e).1; omega))))).grown (by have := hG9.size; omega) g12 (fun k e => by cases e; exact .inl rfl)
                have hPre12 : PreAt (v2.setCell ⟨r, 1, none⟩ (.slice (some ⟨g9, 0, none⟩) (R.gates.length + 1) cap9)) n0 n1 pv R.pre := hPre10.keep (fun k h1 h2 => (g12.block k (by have := hG9.size; omega) (by intro e; injection e with e; omega)).trans (hG9.block k (by omega) (fun e => by have := (hglt k e.symm).1; omega)))
                clear hHeld hSv1 hSv2 hSv3 k1 kf1
                generalize v2.setCell ⟨r, 1, none⟩ (.slice (some ⟨g9, 0, none⟩) (R.gates.length + 1) cap9) = v3 at *
                have k7 := cell_row A12.row (j := 7) (v := .slice Aa na ca) rfl
                have HX7 : Hid (∀ v5, v3.grownBy v5 (Value.slice Aa na ca).ownBlock → RwAt v5 r q pv (.slice (some ⟨g9, 0, none⟩) (R.gates.length + 1) cap9) (.slice Aa na ca) { R with seen := upd R.seen v true, lits := R.lits + l.length, gates := R.gates ++ [⟨(v : Int), (3 : Int), l⟩] } ∧ v5.cell? ⟨r, 7, none⟩ = some (.slice Aa na ca) ∧ v5.frozen? ⟨r, 7, none⟩ = false) := hid (fun v5 hG => by
                  have A13 := A12.grown hG (fun e => by have := (halt r e).1; omega) (fun e => by have := (halt q e).1; omega)
                  exact ⟨A13, cell_row A13.row (j := 7) rfl, frozen_of_row _ _ 7 _ _ A13.row⟩)
                have hn13 : n1 ≤ v3.heap.size := by omega
                have hb88 : (na + 1) * 8 ≤ 140737488355328 := by omega
                have HGC := hid gC
                have HPR := hid hPre12
                clear gA gB gC hGA9 hA9 hA10 A11 hl9 hl10 t29 t39 t40 own1 hPre9 hPre10 hPre12 c1
                go_wp2_with (first | (at_builtin; refine append_one n1 rfl _ _ 48 3 (.int .i64 0) 1 8 rfl Tryz.underlying48 info3 rfl (by decide) (by decide) (.slice Aa na ca) na (nums (natI (R.outAt :: R.at_))) #[.int .i64 (no : Int)] rfl rfl rfl (by intro u hu; simp at hu; subst hu; rfl) tC hn13 hb88 ?_; intro ga cap4 v5 hO5 hG5 hg5 hb5 hlt5; obtain ⟨A13, c7, f7⟩ := HX7.out v5 hG5) | fail)
                go_ret
                unfold AddPost
                rw [HP.out]
                have g14 : v5.grownBy (v5.setCell ⟨r, 7, none⟩ (.slice (some ⟨ga, 0, none⟩) (na + 1) cap4)) (some r) := grown_setCell v5 ⟨r, 7, none⟩ _
                have A14 : RwAt (v5.setCell ⟨r, 7, none⟩ (.slice (some ⟨ga, 0, none⟩) (na + 1) cap4)) r q pv (.slice (some ⟨g9, 0, none⟩) (R.gates.length + 1) cap9) (.slice (some ⟨ga, 0, none⟩) (na + 1) cap4) { R with seen := upd R.seen v true, lits := R.lits + l.length, gates := R.gates ++ [⟨(v : Int), (3 : Int), l⟩], at_ := R.at_ ++ [no] } := A13.put 7 _ rfl rfl
                have hk := HR.out.ok
                have gD := GA.pushA (w1 := v5) (av1 := .slice (some ⟨ga, 0, none⟩) (na + 1) cap4) no HGC.out (by rw [HNA.out]; exact hO5) hG5 (fun b e => by cases e; exact hg5)
                have h5s := hG5.size
                have h14s := g14.size
                refine ⟨rfl, (hF12.grown (by omega) hG5 (fun k e => .inr (.inr (by have := (halt k e).1; omega)))).grown (by omega) g14 (fun k e => by cases e; exact .inl rfl), fun _ => ⟨hrn, hqn, by omega, ⟨hk.vars, hk.nv, by have := HOV.out; simp only []; omega, hk.pre, Nat.le_succ_of_le hk.prel, ?_, ?_, ?_, hk.out⟩, _, _, _, A14, .inr ⟨HD.out, n1, hn01, by omega, ?_, ?_⟩⟩⟩
                · have := hk.gl; simp only [List.length_append, List.length_cons, List.length_nil]; omega
                · have := hk.al; simp only [List.length_append, List.length_cons, List.length_nil]; omega
                · intro g hg
                  rcases List.mem_append.1 hg with hg | hg
                  · exact hk.gs g hg
                  · rw [List.mem_singleton.1 hg]
                    exact ⟨⟨by simp only []; omega, by simp only []; omega⟩, ⟨by simp only []; omega, by simp only []; omega⟩, hx⟩
                · exact HPR.out.keep (fun k h1 h2 => (g14.block k (by omega) (by intro e; injection e with e; omega)).trans (hG5.block k (by omega) (fun e => by have := (halt k e.symm).1; omega)))
                · exact gD.keep g14.size (fun k h1 h2 => g14.block k h2 (by intro e; injection e with e; omega))
              · skip
                obtain ⟨v1, hv1, hBa, hza, qa⟩ := hAl2.out v0
                go_simp
                refine hKc.out _ _ (hSB.out v1 hBa) (fun hHeld => ?_)
                clear hKc Kc
                try simp only [Act.put, List.setIfInBounds_toArray, List.set_cons_zero, List.set_cons_succ]
                have c1v := keeps_below hBa _ _ c1
                refine wpAnyH_ready (rs := [5]) (by kernel_rfl) (by simp) ?_
                refine AllReadyH.cons rfl (fun Kc hKc => ?_) AllReadyH.nil
                go_simp
                refine hKc.out _ _ (hSB.out v1 hBa) (fun hHeld => ?_)
                clear hKc Kc
                try simp only [Act.put, List.setIfInBounds_toArray, List.set_cons_zero, List.set_cons_succ]
                have gA := hGA9.keep hBa.size (fun k _ h => hBa.block k h)
                have own1 := t29.kept (grown_of_below hBa none) (by cases (Value.slice Ag R.gates.length cg).ownBlock <;> simp)
                have hA10 := hA9.below hBa
                have hSv1 := hSB.out v1 hBa
                have hl10 := hl9.kept (grown_of_below hBa none) (by cases (Value.slice A l.length c).ownBlock <;> simp)
                have t40 := t39.kept (grown_of_below hBa none) (by cases (Value.slice Aa na ca).ownBlock <;> simp)
                have hPre10 : PreAt v1 n0 n1 pv R.pre := hPre9.keep (fun k h1 h2 => hBa.block k (by omega))
                refine wpAnyH_ready (rs := [8]) (by kernel_rfl) (by simp) ?_
                refine AllReadyH.cons rfl (fun Kc hKc => ?_) AllReadyH.nil
                obtain ⟨i0, hi0, hzz⟩ := Option.map_eq_some_iff.1 info70
                simp only [Prod.mk.injEq] at hzz
                obtain ⟨hz0', hz1', hz2'⟩ := hzz
                refine step_append_lies (w := v1) (by rfl) _ _ 38 (by rfl) n1 88 i0 (.agg #[.int .i64 0, .int .u8 0, .slice none 0 0]) 3 40 Tryz.underlying38 hi0 hz0' hz1' hz2' rfl (by decide) (.slice Ag R.gates.length cg) R.gates.length (gcells ts0) (by rfl) own1 ⟨v0.heap.size, 0, none⟩ 1 1 [.int .i64 (v : Int), .int .u8 (3 : Int), .slice A l.length c] (by rfl) rfl (World.news_of_block qa) (by intro u hu; simp at hu; rcases hu with rfl | rfl | rfl <;> rfl) (by decide) (by simp only [maxLen]; omega) (by omega) (by omega) v1.heap.size rfl ?_
                intro g9 cap9 v2 hO9 hG9 hb9 hlt9
                have A11 := hA10.grown hG9 (fun e => by have := (hglt r e).1; omega) (fun e => by have := (hglt q e).1; omega)
                have hgbg : (Value.slice Ag R.gates.length cg).ownBlock ≠ some gb := fun e => by have := (hglt gb e).2; omega
                have hSv2 := And.intro (hG9.cell hSv1.1 (fun e => hgbg e.symm)) (And.intro (hG9.cell hSv1.2.1 (fun e => hgbg e.symm)) (hG9.cell hSv1.2.2 (fun e => hgbg e.symm)))
                refine hKc.out _ _ hSv2 (fun hHeld => ?_)
                clear hKc Kc
                try simp only [Act.put, List.setIfInBounds_toArray, List.set_cons_zero, List.set_cons_succ]
                refine wpAnyH_take (i := 9) (v := ?vn54) rfl (by kernel_rfl) (by kernel_rfl) (by kernel_rfl) (fun _ _ _ h => h) (Or.inl ⟨by rfl, ?yn54⟩) hHeld ?_
                case yn54 => (intro w' hSw; (try dsimp only at hSw); go_simp); (try with_reducible rfl)
                try simp only [Act.put, List.setIfInBounds_toArray, List.set_cons_zero, List.set_cons_succ]
                refine wpAnyH_take (i := 10) (v := ?vn55) rfl (by kernel_rfl) (by kernel_rfl) (by kernel_rfl) (fun _ _ _ h => h) (Or.inl ⟨by rfl, ?yn55⟩) hHeld ?_
                case yn55 => (intro w' hSw; (try dsimp only at hSw); go_simp); (try with_reducible rfl)
                try simp only [Act.put, List.setIfInBounds_toArray, List.set_cons_zero, List.set_cons_succ]
                refine wpAnyH_take (i := 11) (v := ?vn56) rfl (by kernel_rfl) (by kernel_rfl) (by kernel_rfl) (fun _ _ _ h => h) (Or.inl ⟨by rfl, ?yn56⟩) hHeld ?_
                case yn56 => (intro w' hSw; (try dsimp only at hSw); go_simp); (try with_reducible rfl)
                try simp only [Act.put, List.setIfInBounds_toArray, List.set_cons_zero, List.set_cons_succ]
                have k1 := cell_row A11.row (j := 1) (v := .slice Ag R.gates.length cg) rfl
                have kf1 := frozen_of_row _ _ 1 _ _ A11.row
                have g12 : v2.grownBy (v2.setCell ⟨r, 1, none⟩ (.slice (some ⟨g9, 0, none⟩) (R.gates.length + 1) cap9)) (some r) := grown_setCell v2 ⟨r, 1, none⟩ _
                have A12 : RwAt (v2.setCell ⟨r, 1, none⟩ (.slice (some ⟨g9, 0, none⟩) (R.gates.length + 1) cap9)) r q pv (.slice (some ⟨g9, 0, none⟩) (R.gates.length + 1) cap9) (.slice Aa na ca) { R with seen := upd R.seen v true, lits := R.lits + l.length, gates := R.gates ++ [⟨(v : Int), (3 : Int), l⟩] } := A11.put 1 _ rfl rfl
                have hSv3 := And.intro (g12.cell hSv2.1 (by intro e; injection e with e; exact hgbr e)) (And.intro (g12.cell hSv2.2.1 (by intro e; injection e with e; exact hgbr e)) (g12.cell hSv2.2.2 (by intro e; injection e with e; exact hgbr e)))
                refine wpAnyH_ready (rs := [12]) (by kernel_rfl) (by simp) ?_
                refine AllReadyH.cons rfl (fun Kc hKc => ?_) AllReadyH.nil
                go_simp
                refine hKc.out _ _ hSv3 (fun hHeld => ?_)
                clear hKc Kc
                try simp only [Act.put, List.setIfInBounds_toArray, List.set_cons_zero, List.set_cons_succ]
                refine wpAnyH_done (by kernel_rfl) ?_ _
                have gB := GA.pushG (n := wL.heap.size) (x := ⟨(v : Int), (3 : Int), l⟩) (w1 := v2) gA ⟨by unfold I64; simp only []; omega, by simp only []; omega, by simp only []; omega⟩ (ints_of_own hl10 (fun y hy => by have := hx y hy; unfold I64; omega) (by omega)) (fun b e => hl10.lt b e) hn1L (fun b e => (hglt b e).2) (fun b e => (halt b e).2) (fun xs' h' => by rw [own_unique h' own1]; exact hO9) hG9 (fun b e => by cases e; exact hb9.imp id (fun e => Nat.le_of_eq e.symm))
                have gC := gB.keep g12.size (fun k h1 h2 => g12.block k h2 (by intro e; injection e with e; omega))
                have tC := gC.ats
                rw [HNA.out] at tC
                have hv3s : wL.heap.size ≤ (v2.setCell ⟨r, 1, none⟩ (.slice (some ⟨g9, 0, none⟩) (R.gates.length + 1) cap9)).heap.size := by have := g12.size; have := hG9.size; omega
                have hF12 : Fr2 n0 r q w (v2.setCell ⟨r, 1, none⟩ (.slice (some ⟨g9, 0, none⟩) (R.gates.length + 1) cap9)) := (((hF9.trans (Fr2.below (hBa.mono (by omega)))).grown (by omega) hG9 (fun k e => .inr (.inr (by have := (hglt k e).1; omega))))).grown (by have := hG9.size; omega) g12 (fun k e => by cases e; exact .inl rfl)
                have hPre12 : PreAt (v2.setCell ⟨r, 1, none⟩ (.slice (some ⟨g9, 0, none⟩) (R.gates.length + 1) cap9)) n0 n1 pv R.pre := hPre10.keep (fun k h1 h2 => (g12.block k (by have := hG9.size; omega) (by intro e; injection e with e; omega)).trans (hG9.block k (by omega) (fun e => by have := (hglt k e.symm).1; omega)))
                clear hHeld hSv1 hSv2 hSv3 k1 kf1
                generalize v2.setCell ⟨r, 1, none⟩ (.slice (some ⟨g9, 0, none⟩) (R.gates.length + 1) cap9) = v3 at *
                have k7 := cell_row A12.row (j := 7) (v := .slice Aa na ca) rfl
                have HX7 : Hid (∀ v5, v3.grownBy v5 (Value.slice Aa na ca).ownBlock → RwAt v5 r q pv (.slice (some ⟨g9, 0, none⟩) (R.gates.length + 1) cap9) (.slice Aa na ca) { R with seen := upd R.seen v true, lits := R.lits + l.length, gates := R.gates ++ [⟨(v : Int), (3 : Int), l⟩] } ∧ v5.cell? ⟨r, 7, none⟩ = some (.slice Aa na ca) ∧ v5.frozen? ⟨r, 7, none⟩ = false) := hid (fun v5 hG => by
                  have A13 := A12.grown hG (fun e => by have := (halt r e).1; omega) (fun e => by have := (halt q e).1; omega)
                  exact ⟨A13, cell_row A13.row (j := 7) rfl, frozen_of_row _ _ 7 _ _ A13.row⟩)
                have hn13 : n1 ≤ v3.heap.size := by omega
                have hb88 : (na + 1) * 8 ≤ 140737488355328 := by omega
                have HGC := hid gC
                have HPR := hid hPre12
                clear gA gB gC hGA9 hA9 hA10 A11 hl9 hl10 t29 t39 t40 own1 hPre9 hPre10 hPre12 c1
                go_wp2_with (first | (at_builtin; refine append_one n1 rfl _ _ 48 3 (.int .i64 0) 1 8 rfl Tryz.underlying48 info3 rfl (by decide) (by decide) (.slice Aa na ca) na (nums (natI (R.outAt :: R.at_))) #[.int .i64 (no : Int)] rfl rfl rfl (by intro u hu; simp at hu; subst hu; rfl) tC hn13 hb88 ?_; intro ga cap4 v5 hO5 hG5 hg5 hb5 hlt5; obtain ⟨A13, c7, f7⟩ := HX7.out v5 hG5) | fail)
                go_ret
                unfold AddPost
                rw [HP.out]
                have g14 : v5.grownBy (v5.setCell ⟨r, 7, none⟩ (.slice (some ⟨ga, 0, none⟩) (na + 1) cap4)) (some r) := grown_setCell v5 ⟨r, 7, none⟩ _
                have A14 : RwAt (v5.setCell ⟨r, 7, none⟩ (.slice (some ⟨ga, 0, none⟩) (na + 1) cap4)) r q pv (.slice (some ⟨g9, 0, none⟩) (R.gates.length + 1) cap9) (.slice (some ⟨ga, 0, none⟩) (na + 1) cap4) { R with seen := upd R.seen v true, lits := R.lits + l.length, gates := R.gates ++ [⟨(v : Int), (3 : Int), l⟩], at_ := R.at_ ++ [no] } := A13.put 7 _ rfl rfl
                have hk := HR.out.ok
                have gD := GA.pushA (w1 := v5) (av1 := .slice (some ⟨ga, 0, none⟩) (na + 1) cap4) no HGC.out (by rw [HNA.out]; exact hO5) hG5 (fun b e => by cases e; exact hg5)
                have h5s := hG5.size
                have h14s := g14.size
                refine ⟨rfl, (hF12.grown (by omega) hG5 (fun k e => .inr (.inr (by have := (halt k e).1; omega)))).grown (by omega) g14 (fun k e => by cases e; exact .inl rfl), fun _ => ⟨hrn, hqn, by omega, ⟨hk.vars, hk.nv, by have := HOV.out; simp only []; omega, hk.pre, Nat.le_succ_of_le hk.prel, ?_, ?_, ?_, hk.out⟩, _, _, _, A14, .inr ⟨HD.out, n1, hn01, by omega, ?_, ?_⟩⟩⟩
                · have := hk.gl; simp only [List.length_append, List.length_cons, List.length_nil]; omega
                · have := hk.al; simp only [List.length_append, List.length_cons, List.length_nil]; omega
                · intro g hg
                  rcases List.mem_append.1 hg with hg | hg
                  · exact hk.gs g hg
                  · rw [List.mem_singleton.1 hg]
                    exact ⟨⟨by simp only []; omega, by simp only []; omega⟩, ⟨by simp only []; omega, by simp only []; omega⟩, hx⟩
                · exact HPR.out.keep (fun k h1 h2 => (g14.block k (by omega) (by intro e; injection e with e; omega)).trans (hG5.block k (by omega) (fun e => by have := (halt k e.symm).1; omega)))
                · exact gD.keep g14.size (fun k h1 h2 => g14.block k h2 (by intro e; injection e with e; omega))
        · have hz2 : ((l.length : Int) != 2) = true := bne_iff_ne.2 (by omega)
          have HP := hid (show addL R no (.gate v 3 l) = (2, R) by
            rw [addL_gate, if_neg (by rw [HD.out]; simp), if_pos (.inl ⟨rfl, hn2⟩)])
          clear hn2
          go_wp2_with fail
          go_ret
          unfold AddPost
          rw [HP.out]
          exact ⟨rfl, hF1.trans (Fr2.below (hB5.mono hn1)), fun h => absurd h (by simp)⟩
      · have hz3 : ((kd : Int) == 3) = false := beq_eq_false_iff_ne.2 (by omega)
        by_cases h4 : kd = 4
        · subst h4
          by_cases hn3 : l.length = 3
          · have hz2 : ((l.length : Int) != 3) = false := bne_eq_false_iff_eq.2 (by omega)
            have HAR : Hid (¬ ((4 = 3 ∧ l.length ≠ 2) ∨ (4 = 4 ∧ l.length ≠ 3))) := hid (by omega)
            clear hn3
            go_wp2_with fail
            have hA5 := hA1.below hB5
            have hF5 := hF1.trans (Fr2.below (hB5.mono hn1))
            have y1 := keeps_below hB5 _ _ z1
            have y2 := keeps_below hB5 _ _ z2
            have c3 := cell_row hA5.row (j := 3) (v := .slice (some ⟨q, 0, none⟩) 65537 65537) rfl
            have cs := hA5.seen.cell v (by omega)
            have hgbr : gb ≠ r := by omega
            have hgbq : gb ≠ q := by omega
            cases hS : R.seen v with
            | true =>
              rw [hS] at cs
              have HP := hid (show addL R no (.gate v 4 l) = (7, R) by
                rw [addL_gate, if_neg (by rw [HD.out]; simp), if_neg (by simpa using HAR.out), if_pos (by rw [Int.toNat_natCast]; exact hS)])
              clear hS
              go_wp2_with fail
              go_quiet (fail)
              go_wp2_with fail
              go_ret
              unfold AddPost
              rw [HP.out]
              exact ⟨rfl, hF5.trans (Fr2.below (below_drewN (Below.refl _ _) _)), fun h => absurd h (by simp)⟩
            | false =>
              rw [hS] at cs
              have HS := hid hS
              clear hS
              go_wp2_with fail
              go_quiet (fail)
              go_wp2_with fail
              have hAd : RwAt (w5.drewN nq) r q pv gv av R := hA5.heap rfl rfl
              have hBd5 : Below w1.heap.size w1 (w5.drewN nq) := below_drewN hB5 _
              have yd2 : (w5.drewN nq).cell? ⟨w.heap.size, 2, none⟩ = some (.int .i64 (v : Int)) := y2
              have cd3 : (w5.drewN nq).cell? ⟨r, 3, none⟩ = some (.slice (some ⟨q, 0, none⟩) 65537 65537) := c3
              have rrd : (w5.drewN nq).heap[gb]? = some (.cells #[.int .i64 (v : Int), .int .u8 (4 : Int), .slice A l.length c] 88 (0, 0)) := rr
              have hFd : Fr2 n0 r q w (w5.drewN nq) := hF5.trans (Fr2.below (below_drewN (Below.refl _ _) _))
              clear cs y1 y2 c3 g0 g1 g2 rr hA5 hB5 hF5
              generalize w5.drewN nq = w6 at *
              have l1 := fun p => cell_since yd2 p
              have l2 := fun p => cell_since cd3 p
              refine region_tail 7 (by kernel_rfl) (by kernel_rfl) ?_
              simp only [List.take_succ_cons, List.take_zero, List.drop_succ_cons, List.drop_zero]
              repeat (first | go_big_quiet_step (fail) | quiet_step (fail))
              refine wpQuiet_nil ?_
              rintro W ⟨pw, hW⟩
              have hBW : Below w6.heap.size w6 W := by rw [hW]; exact since_below w6 pw
              have hAW := hAd.below hBW
              have csW := hAW.seen.cell v (by omega)
              have cfW := hAW.seen.free v
              have hA7 : RwAt (W.setCell ⟨q, v, none⟩ (.bool true)) r q pv gv av { R with seen := upd R.seen v true } :=
                ⟨(heap_setCell_other W ⟨q, v, none⟩ r _ hAW.ne).trans hAW.row, hAW.seen.store v true, hAW.ne⟩
              have gq : W.grownBy (W.setCell ⟨q, v, none⟩ (.bool true)) (some q) := grown_setCell W ⟨q, v, none⟩ _
              obtain ⟨w7, hw7⟩ : ∃ w7, W.setCell ⟨q, v, none⟩ (.bool true) = w7 := ⟨_, rfl⟩
              rw [hw7] at hA7 gq
              have rr7 := row_grown (row_below rrd hBW) gq (by intro e; injection e with e; exact hgbq e.symm)
              have hlv : R.lits ≤ 200000 := HR.out.ok.lits
              have c5 := cell_row hA7.row (j := 5) (v := .int .i64 (R.lits : Int)) rfl
              have f5 := frozen_of_row _ _ 5 _ _ hA7.row
              have hwl : IntKind.i64.wrap ((R.lits : Int) + (l.length : Int)) = (R.lits : Int) + (l.length : Int) := IntWalk.i64_in _ (by omega)
              have hA8 : RwAt (w7.setCell ⟨r, 5, none⟩ (.int .i64 ((R.lits : Int) + (l.length : Int)))) r q pv gv av { R with seen := upd R.seen v true, lits := R.lits + l.length } := hA7.put 5 _ rfl (by simp [stg])
              have gr8 : w7.grownBy (w7.setCell ⟨r, 5, none⟩ (.int .i64 ((R.lits : Int) + (l.length : Int)))) (some r) := grown_setCell w7 ⟨r, 5, none⟩ _
              obtain ⟨w8, hw8⟩ : ∃ w8, w7.setCell ⟨r, 5, none⟩ (.int .i64 ((R.lits : Int) + (l.length : Int))) = w8 := ⟨_, rfl⟩
              rw [hw8] at hA8 gr8
              have rr8 := row_grown rr7 gr8 (by intro e; injection e with e; exact hgbr e.symm)
              have hFs := hFd.size
              have hBs := hBW.size
              have hgs := gq.size
              have h8s := gr8.size
              have hn6 : n0 ≤ w6.heap.size := by omega
              have hF8 := ((hFd.trans (Fr2.below (hBW.mono hn6))).grown (by omega) gq (fun k e => by cases e; exact .inr (.inl rfl))).grown (by omega) gr8 (fun k e => by cases e; exact .inl rfl)
              have u5 := cell_row hA8.row (j := 5) (v := .int .i64 (((R.lits + l.length : Nat)) : Int)) rfl
              rw [Int.natCast_add] at u5
              have G0 := cell_row rr8 (j := 0) (v := .int .i64 (v : Int)) rfl
              have G1 := cell_row rr8 (j := 1) (v := .int .u8 (4 : Int)) rfl
              have G2 := cell_row rr8 (j := 2) (v := .slice A l.length c) rfl
              clear l1 l2 hW yd2 cd3
              by_cases hov : 200000 < R.lits + l.length
              · have HP := hid (show addL R no (.gate v 4 l) = (3, R) by
                  rw [addL_gate, if_neg (by rw [HD.out]; simp), if_neg (by simpa using HAR.out), if_neg (by rw [Int.toNat_natCast, HS.out]; simp), if_pos hov])
                have hov2 : (200000 : Int) < (R.lits : Int) + (l.length : Int) := by omega
                clear hov
                go_wp2_with fail
                go_ret
                unfold AddPost
                rw [HP.out]
                exact ⟨rfl, hF8, fun h => absurd h (by simp)⟩
              · have hov2 : decide ((200000 : Int) < (R.lits : Int) + (l.length : Int)) = false := decide_eq_false (by omega)
                have HOV := hid hov
                clear hov
                have HP := hid (show addL R no (.gate v 4 l) = (0, { R with seen := upd R.seen v true, lits := R.lits + l.length, gates := R.gates ++ [⟨v, 4, l⟩], at_ := R.at_ ++ [no] }) by
                  rw [addL_gate, if_neg (by rw [HD.out]; simp), if_neg (by simpa using HAR.out), if_neg (by rw [Int.toNat_natCast, HS.out]; simp), if_neg HOV.out, Int.toNat_natCast]
                  try rfl)
                obtain ⟨n1, hn01, hn1L, hPre, hGA⟩ : ∃ n1, n0 ≤ n1 ∧ n1 ≤ wL.heap.size ∧ PreAt wL n0 n1 pv R.pre ∧ GA wL n1 gv av R.gates (R.outAt :: R.at_) := by
                  rcases HPH.out with ⟨h0, _⟩ | ⟨_, n1, h1, h2, h3, h4⟩
                  · rw [HD.out] at h0; cases h0
                  · exact ⟨n1, h1, h2, h3, h4⟩
                have hLw1 : wL.heap.size ≤ w1.heap.size := hBL1.size
                have h16 := hBd5.size
                have hK8 : ∀ k, n0 ≤ k → k < wL.heap.size → w8.heap[k]? = wL.heap[k]? := fun k h1 h2 => by
                  rw [gr8.block k (by omega) (by intro e; injection e with e; omega), gq.block k (by omega) (by intro e; injection e with e; omega), hBW.block k (by omega), hBd5.block k (by omega)]
                  exact hBL1.block k h2
                have hGA8 := hGA.keep (w' := w8) (by omega) (fun k h1 h2 => hK8 k (by omega) h2)
                have hPre8 : PreAt w8 n0 n1 pv R.pre := hPre.keep (fun k h1 h2 => hK8 k h1 (by omega))
                have hl8 : w8.ownsRow wL.heap.size 3 1 (.slice A l.length c) l.length (nums l) := row_kept hl1 (fun k h1 h2 _ => by
                  rw [gr8.block k (by omega) (by intro e; injection e with e; omega), gq.block k (by omega) (by intro e; injection e with e; omega), hBW.block k (by omega), hBd5.block k h2])
                have hglt : ∀ b, gv.ownBlock = some b → n1 ≤ b ∧ b < wL.heap.size := fun b e => by
                  obtain ⟨ts, L, k1, k2, k3, k4, k5, k6⟩ := hGA
                  exact k2.lt b e
                have halt : ∀ b, av.ownBlock = some b → n1 ≤ b ∧ b < wL.heap.size := fun b e => hGA.ats.lt b e
                obtain ⟨ts0, L0, t1, t2, t3, t4, t5, t6⟩ := hGA8
                obtain ⟨Ag, cg, rfl⟩ := own_shape t2
                obtain ⟨na, hna⟩ : ∃ na, (R.outAt :: R.at_).length = na := ⟨_, rfl⟩
                have t3' := t3
                rw [hna] at t3'
                obtain ⟨Aa, ca, rfl⟩ := own_shape t3'
                have HNA := hid hna
                have hnal : na ≤ 4194306 := by have h1 := HR.out.ok.gl; have h2 := HR.out.ok.al; simp only [List.length_cons] at hna; omega
                clear hna
                have hGA8' : GA w8 n1 (.slice Ag R.gates.length cg) (.slice Aa na ca) R.gates (R.outAt :: R.at_) := ⟨ts0, L0, t1, t2, t3, t4, t5, t6⟩
                have c1 : w8.drew.cell? ⟨r, 1, none⟩ = some (.slice Ag R.gates.length cg) := cell_row hA8.row (j := 1) rfl
                have hA9 : RwAt w8.drew r q pv (.slice Ag R.gates.length cg) (.slice Aa na ca) { R with seen := upd R.seen v true, lits := R.lits + l.length } := hA8.heap rfl rfl
                have hGA9 : GA w8.drew n1 (.slice Ag R.gates.length cg) (.slice Aa na ca) R.gates (R.outAt :: R.at_) := hGA8'.keep (Nat.le_refl _) (fun _ _ _ => rfl)
                have hPre9 : PreAt w8.drew n0 n1 pv R.pre := hPre8.keep (fun _ _ _ => rfl)
                have hl9 : w8.drew.ownsRow wL.heap.size 3 1 (.slice A l.length c) l.length (nums l) := hl8
                have t39 : w8.drew.ownsRow n1 3 1 (.slice Aa na ca) na (nums (natI (R.outAt :: R.at_))) := t3'
                have t29 : w8.drew.ownsRow n1 88 3 (.slice Ag R.gates.length cg) R.gates.length (gcells ts0) := t2
                have hS9 : (fun W => W.cell? ⟨gb, 0, none⟩ = some (.int .i64 (v : Int)) ∧ W.cell? ⟨gb, 1, none⟩ = some (.int .u8 (4 : Int)) ∧ W.cell? ⟨gb, 2, none⟩ = some (.slice A l.length c)) w8.drew := ⟨G0, G1, G2⟩
                have hF9 : Fr2 n0 r q w w8.drew := hF8.trans ⟨rfl, rfl, rfl, Nat.le_refl _, fun _ _ _ _ => rfl⟩
                have hn9 : wL.heap.size ≤ w8.drew.heap.size := by show _ ≤ w8.heap.size; omega
                have hgb9 : gb < w8.drew.heap.size := row_lt rr8
                have hgL : R.gates.length ≤ 4194305 := by have := HR.out.ok.gl; omega
                have haL : R.at_.length = R.gates.length := HR.out.ok.al
                go_wp2_with fail
                refine wp_region_held_drew (S := (fun W => W.cell? ⟨gb, 0, none⟩ = some (.int .i64 (v : Int)) ∧ W.cell? ⟨gb, 1, none⟩ = some (.int .u8 (4 : Int)) ∧ W.cell? ⟨gb, 2, none⟩ = some (.slice A l.length c))) (by kernel_rfl) hS9 (fun hHeld => ?_)
                clear c5 f5 u5 G0 G1 G2 rr8 hA8 hGA8' hPre8 hl8 t2 t3 t3' t4 t5 t6 hK8 gr8
                generalize w8.drew = v0 at *
                have hSB : Hid (∀ W, Below v0.heap.size v0 W → (fun W => W.cell? ⟨gb, 0, none⟩ = some (.int .i64 (v : Int)) ∧ W.cell? ⟨gb, 1, none⟩ = some (.int .u8 (4 : Int)) ∧ W.cell? ⟨gb, 2, none⟩ = some (.slice A l.length c)) W) := hid (fun W hW => ⟨keeps_below hW _ _ hS9.1, keeps_below hW _ _ hS9.2.1, keeps_below hW _ _ hS9.2.2⟩)
                have hAl2 : Hid (∀ W : World, ∃ w2, W.alloc (.cells #[.int .i64 (v : Int), .int .u8 (4 : Int), .slice A l.length c] 88) = w2 ∧ Below W.heap.size W w2 ∧ w2.heap.size = W.heap.size + 1 ∧ w2.heap[W.heap.size]? = some (.cells #[.int .i64 (v : Int), .int .u8 (4 : Int), .slice A l.length c] 88 (0, 0))) := hid (fun W => by
                  obtain ⟨w1, hw1, -, -, hz1, hB1, q1⟩ := new_block W #[.int .i64 (v : Int), .int .u8 (4 : Int), .slice A l.length c] 88
                  exact ⟨w1, hw1, hB1, hz1, q1⟩)
                refine wpAnyH_take (i := 0) (v := ?vn57) rfl (by kernel_rfl) (by kernel_rfl) (by kernel_rfl) (fun _ _ _ h => h) (Or.inl ⟨by rfl, ?yn57⟩) hHeld ?_
                case yn57 => (intro w' hSw; (try dsimp only at hSw); go_simp); (try with_reducible rfl)
                try simp only [Act.put, List.setIfInBounds_toArray, List.set_cons_zero, List.set_cons_succ]
                refine wpAnyH_take (i := 1) (v := ?vn58) rfl (by kernel_rfl) (by kernel_rfl) (by kernel_rfl) (fun _ _ _ h => h) (Or.inl ⟨by rfl, ?yn58⟩) hHeld ?_
                case yn58 => (intro w' hSw; (try dsimp only at hSw); go_simp); (try with_reducible rfl)
                try simp only [Act.put, List.setIfInBounds_toArray, List.set_cons_zero, List.set_cons_succ]
                refine wpAnyH_take (i := 2) (v := ?vn59) rfl (by kernel_rfl) (by kernel_rfl) (by kernel_rfl) (fun _ _ _ h => h) (Or.inl ⟨by rfl, ?yn59⟩) hHeld ?_
                case yn59 => (intro w' hSw; (try dsimp only at hSw); go_simp); (try with_reducible rfl)
                try simp only [Act.put, List.setIfInBounds_toArray, List.set_cons_zero, List.set_cons_succ]
                refine wpAnyH_take (i := 3) (v := ?vn60) rfl (by kernel_rfl) (by kernel_rfl) (by kernel_rfl) (fun _ _ _ h => h) (Or.inl ⟨by rfl, ?yn60⟩) hHeld ?_
                case yn60 => (intro w' hSw; (try dsimp only at hSw); go_simp); (try with_reducible rfl)
                try simp only [Act.put, List.setIfInBounds_toArray, List.set_cons_zero, List.set_cons_succ]
                refine wpAnyH_take (i := 4) (v := ?vn61) rfl (by kernel_rfl) (by kernel_rfl) (by kernel_rfl) (fun _ _ _ h => h) (Or.inl ⟨by rfl, ?yn61⟩) hHeld ?_
                case yn61 => (intro w' hSw; (try dsimp only at hSw); go_simp); (try with_reducible rfl)
                try simp only [Act.put, List.setIfInBounds_toArray, List.set_cons_zero, List.set_cons_succ]
                refine wpAnyH_take (i := 6) (v := ?vn62) rfl (by kernel_rfl) (by kernel_rfl) (by kernel_rfl) (fun _ _ _ h => h) (Or.inl ⟨by rfl, ?yn62⟩) hHeld ?_
                case yn62 => (intro w' hSw; (try dsimp only at hSw); go_simp); (try with_reducible rfl)
                try simp only [Act.put, List.setIfInBounds_toArray, List.set_cons_zero, List.set_cons_succ]
                refine wpAnyH_ready (rs := [5,7]) (by kernel_rfl) (by simp) ?_
                refine AllReadyH.cons rfl (fun Kc hKc => ?_) (AllReadyH.cons rfl (fun Kc hKc => ?_) AllReadyH.nil)
                · skip
                  go_simp
                  refine hKc.out _ _ hS9 (fun hHeld => ?_)
                  clear hKc Kc
                  try simp only [Act.put, List.setIfInBounds_toArray, List.set_cons_zero, List.set_cons_succ]
                  refine wpAnyH_ready (rs := [7]) (by kernel_rfl) (by simp) ?_
                  refine AllReadyH.cons rfl (fun Kc hKc => ?_) AllReadyH.nil
                  obtain ⟨v1, hv1, hBa, hza, qa⟩ := hAl2.out v0
                  go_simp
                  refine hKc.out _ _ (hSB.out v1 hBa) (fun hHeld => ?_)
                  clear hKc Kc
                  try simp only [Act.put, List.setIfInBounds_toArray, List.set_cons_zero, List.set_cons_succ]
                  have gA := hGA9.keep hBa.size (fun k _ h => hBa.block k h)
                  have own1 := t29.kept (grown_of_below hBa none) (by cases (Value.slice Ag R.gates.length cg).ownBlock <;> simp)
                  have hA10 := hA9.below hBa
                  have hSv1 := hSB.out v1 hBa
                  have hl10 := hl9.kept (grown_of_below hBa none) (by cases (Value.slice A l.length c).ownBlock <;> simp)
                  have t40 := t39.kept (grown_of_below hBa none) (by cases (Value.slice Aa na ca).ownBlock <;> simp)
                  have hPre10 : PreAt v1 n0 n1 pv R.pre := hPre9.keep (fun k h1 h2 => hBa.block k (by omega))
                  refine wpAnyH_ready (rs := [8]) (by kernel_rfl) (by simp) ?_
                  refine AllReadyH.cons rfl (fun Kc hKc => ?_) AllReadyH.nil
                  obtain ⟨i0, hi0, hzz⟩ := Option.map_eq_some_iff.1 info70
                  simp only [Prod.mk.injEq] at hzz
                  obtain ⟨hz0', hz1', hz2'⟩ := hzz
                  refine step_append_lies (w := v1) (by rfl) _ _ 38 (by rfl) n1 88 i0 (.agg #[.int .i64 0, .int .u8 0, .slice none 0 0]) 3 40 Tryz.underlying38 hi0 hz0' hz1' hz2' rfl (by decide) (.slice Ag R.gates.length cg) R.gates.length (gcells ts0) (by rfl) own1 ⟨v0.heap.size, 0, none⟩ 1 1 [.int .i64 (v : Int), .int .u8 (4 : Int), .slice A l.length c] (by rfl) rfl (World.news_of_block qa) (by intro u hu; simp at hu; rcases hu with rfl | rfl | rfl <;> rfl) (by decide) (by simp only [maxLen]; omega) (by omega) (by omega) v1.heap.size rfl ?_
                  intro g9 cap9 v2 hO9 hG9 hb9 hlt9
                  have A11 := hA10.grown hG9 (fun e => by have := (hglt r e).1; omega) (fun e => by have := (hglt q e).1; omega)
                  have hgbg : (Value.slice Ag R.gates.length cg).ownBlock ≠ some gb := fun e => by have := (hglt gb e).2; omega
                  have hSv2 := And.intro (hG9.cell hSv1.1 (fun e => hgbg e.symm)) (And.intro (hG9.cell hSv1.2.1 (fun e => hgbg e.symm)) (hG9.cell hSv1.2.2 (fun e => hgbg e.symm)))
                  refine hKc.out _ _ hSv2 (fun hHeld => ?_)
                  clear hKc Kc
                  try simp only [Act.put, List.setIfInBounds_toArray, List.set_cons_zero, List.set_cons_succ]
                  refine wpAnyH_take (i := 9) (v := ?vn63) rfl (by kernel_rfl) (by kernel_rfl) (by kernel_rfl) (fun _ _ _ h => h) (Or.inl ⟨by rfl, ?yn63⟩) hHeld ?_
                  case yn63 => (intro w' hSw; (try dsimp only at hSw); go_simp); (try with_reducible rfl)
                  try simp only [Act.put, List.setIfInBounds_toArray, List.set_cons_zero, List.set_cons_succ]
                  refine wpAnyH_take (i := 10) (v := ?vn64) rfl (by kernel_rfl) (by kernel_rfl) (by kernel_rfl) (fun _ _ _ h => h) (Or.inl ⟨by rfl, ?yn64⟩) hHeld ?_
                  case yn64 => (intro w' hSw; (try dsimp only at hSw); go_simp); (try with_reducible rfl)
                  try simp only [Act.put, List.setIfInBounds_toArray, List.set_cons_zero, List.set_cons_succ]
                  refine wpAnyH_take (i := 11) (v := ?vn65) rfl (by kernel_rfl) (by kernel_rfl) (by kernel_rfl) (fun _ _ _ h => h) (Or.inl ⟨by rfl, ?yn65⟩) hHeld ?_
                  case yn65 => (intro w' hSw; (try dsimp only at hSw); go_simp); (try with_reducible rfl)
                  try simp only [Act.put, List.setIfInBounds_toArray, List.set_cons_zero, List.set_cons_succ]
                  have k1 := cell_row A11.row (j := 1) (v := .slice Ag R.gates.length cg) rfl
                  have kf1 := frozen_of_row _ _ 1 _ _ A11.row
                  have g12 : v2.grownBy (v2.setCell ⟨r, 1, none⟩ (.slice (some ⟨g9, 0, none⟩) (R.gates.length + 1) cap9)) (some r) := grown_setCell v2 ⟨r, 1, none⟩ _
                  have A12 : RwAt (v2.setCell ⟨r, 1, none⟩ (.slice (some ⟨g9, 0, none⟩) (R.gates.length + 1) cap9)) r q pv (.slice (some ⟨g9, 0, none⟩) (R.gates.length + 1) cap9) (.slice Aa na ca) { R with seen := upd R.seen v true, lits := R.lits + l.length, gates := R.gates ++ [⟨(v : Int), (4 : Int), l⟩] } := A11.put 1 _ rfl rfl
                  have hSv3 := And.intro (g12.cell hSv2.1 (by intro e; injection e with e; exact hgbr e)) (And.intro (g12.cell hSv2.2.1 (by intro e; injection e with e; exact hgbr e)) (g12.cell hSv2.2.2 (by intro e; injection e with e; exact hgbr e)))
                  refine wpAnyH_ready (rs := [12]) (by kernel_rfl) (by simp) ?_
                  refine AllReadyH.cons rfl (fun Kc hKc => ?_) AllReadyH.nil
                  go_simp
                  refine hKc.out _ _ hSv3 (fun hHeld => ?_)
                  clear hKc Kc
                  try simp only [Act.put, List.setIfInBounds_toArray, List.set_cons_zero, List.set_cons_succ]
                  refine wpAnyH_done (by kernel_rfl) ?_ _
                  have gB := GA.pushG (n := wL.heap.size) (x := ⟨(v : Int), (4 : Int), l⟩) (w1 := v2) gA ⟨by unfold I64; simp only []; omega, by simp only []; omega, by simp only []; omega⟩ (ints_of_own hl10 (fun y hy => by have := hx y hy; unfold I64; omega) (by omega)) (fun b e => hl10.lt b e) hn1L (fun b e => (hglt b e).2) (fun b e => (halt b e).2) (fun xs' h' => by rw [own_unique h' own1]; exact hO9) hG9 (fun b e => by cases e; exact hb9.imp id (fun e => Nat.le_of_eq e.symm))
                  have gC := gB.keep g12.size (fun k h1 h2 => g12.block k h2 (by intro e; injection e with e; omega))
                  have tC := gC.ats
                  rw [HNA.out] at tC
                  have hv3s : wL.heap.size ≤ (v2.setCell ⟨r, 1, none⟩ (.slice (some ⟨g9, 0, none⟩) (R.gates.length + 1) cap9)).heap.size := by have := g12.size; have := hG9.size; omega
                  have hF12 : Fr2 n0 r q w (v2.setCell ⟨r, 1, none⟩ (.slice (some ⟨g9, 0, none⟩) (R.gates.length + 1) cap9)) := (((hF9.trans (Fr2.below (hBa.mono (by omega)))).grown (by omega) hG9 (fun k e => .inr (.inr (by have := (hglt k e).1; omega))))).grown (by have := hG9.size; omega) g12 (fun k e => by cases e; exact .inl rfl)
                  have hPre12 : PreAt (v2.setCell ⟨r, 1, none⟩ (.slice (some ⟨g9, 0, none⟩) (R.gates.length + 1) cap9)) n0 n1 pv R.pre := hPre10.keep (fun k h1 h2 => (g12.block k (by have := hG9.size; omega) (by intro e; injection e with e; omega)).trans (hG9.block k (by omega) (fun e => by have := (hglt k e.symm).1; omega)))
                  clear hHeld hSv1 hSv2 hSv3 k1 kf1
                  generalize v2.setCell ⟨r, 1, none⟩ (.slice (some ⟨g9, 0, none⟩) (R.gates.length + 1) cap9) = v3 at *
                  have k7 := cell_row A12.row (j := 7) (v := .slice Aa na ca) rfl
                  have HX7 : Hid (∀ v5, v3.grownBy v5 (Value.slice Aa na ca).ownBlock → RwAt v5 r q pv (.slice (some ⟨g9, 0, none⟩) (R.gates.length + 1) cap9) (.slice Aa na ca) { R with seen := upd R.seen v true, lits := R.lits + l.length, gates := R.gates ++ [⟨(v : Int), (4 : Int), l⟩] } ∧ v5.cell? ⟨r, 7, none⟩ = some (.slice Aa na ca) ∧ v5.frozen? ⟨r, 7, none⟩ = false) := hid (fun v5 hG => by
                    have A13 := A12.grown hG (fun e => by have := (halt r e).1; omega) (fun e => by have := (halt q e).1; omega)
                    exact ⟨A13, cell_row A13.row (j := 7) rfl, frozen_of_row _ _ 7 _ _ A13.row⟩)
                  have hn13 : n1 ≤ v3.heap.size := by omega
                  have hb88 : (na + 1) * 8 ≤ 140737488355328 := by omega
                  have HGC := hid gC
                  have HPR := hid hPre12
                  clear gA gB gC hGA9 hA9 hA10 A11 hl9 hl10 t29 t39 t40 own1 hPre9 hPre10 hPre12 c1
                  go_wp2_with (first | (at_builtin; refine append_one n1 rfl _ _ 48 3 (.int .i64 0) 1 8 rfl Tryz.underlying48 info3 rfl (by decide) (by decide) (.slice Aa na ca) na (nums (natI (R.outAt :: R.at_))) #[.int .i64 (no : Int)] rfl rfl rfl (by intro u hu; simp at hu; subst hu; rfl) tC hn13 hb88 ?_; intro ga cap4 v5 hO5 hG5 hg5 hb5 hlt5; obtain ⟨A13, c7, f7⟩ := HX7.out v5 hG5) | fail)
                  go_ret
                  unfold AddPost
                  rw [HP.out]
                  have g14 : v5.grownBy (v5.setCell ⟨r, 7, none⟩ (.slice (some ⟨ga, 0, none⟩) (na + 1) cap4)) (some r) := grown_setCell v5 ⟨r, 7, none⟩ _
                  have A14 : RwAt (v5.setCell ⟨r, 7, none⟩ (.slice (some ⟨ga, 0, none⟩) (na + 1) cap4)) r q pv (.slice (some ⟨g9, 0, none⟩) (R.gates.length + 1) cap9) (.slice (some ⟨ga, 0, none⟩) (na + 1) cap4) { R with seen := upd R.seen v true, lits := R.lits + l.length, gates := R.gates ++ [⟨(v : Int), (4 : Int), l⟩], at_ := R.at_ ++ [no] } := A13.put 7 _ rfl rfl
                  have hk := HR.out.ok
                  have gD := GA.pushA (w1 := v5) (av1 := .slice (some ⟨ga, 0, none⟩) (na + 1) cap4) no HGC.out (by rw [HNA.out]; exact hO5) hG5 (fun b e => by cases e; exact hg5)
                  have h5s := hG5.size
                  have h14s := g14.size
                  refine ⟨rfl, (hF12.grown (by omega) hG5 (fun k e => .inr (.inr (by have := (halt k e).1; omega)))).grown (by omega) g14 (fun k e => by cases e; exact .inl rfl), fun _ => ⟨hrn, hqn, by omega, ⟨hk.vars, hk.nv, by have := HOV.out; simp only []; omega, hk.pre, Nat.le_succ_of_le hk.prel, ?_, ?_, ?_, hk.out⟩, _, _, _, A14, .inr ⟨HD.out, n1, hn01, by omega, ?_, ?_⟩⟩⟩
                  · have := hk.gl; simp only [List.length_append, List.length_cons, List.length_nil]; omega
                  · have := hk.al; simp only [List.length_append, List.length_cons, List.length_nil]; omega
                  · intro g hg
                    rcases List.mem_append.1 hg with hg | hg
                    · exact hk.gs g hg
                    · rw [List.mem_singleton.1 hg]
                      exact ⟨⟨by simp only []; omega, by simp only []; omega⟩, ⟨by simp only []; omega, by simp only []; omega⟩, hx⟩
                  · exact HPR.out.keep (fun k h1 h2 => (g14.block k (by omega) (by intro e; injection e with e; omega)).trans (hG5.block k (by omega) (fun e => by have := (halt k e.symm).1; omega)))
                  · exact gD.keep g14.size (fun k h1 h2 => g14.block k h2 (by intro e; injection e with e; omega))
                · skip
                  obtain ⟨v1, hv1, hBa, hza, qa⟩ := hAl2.out v0
                  go_simp
                  refine hKc.out _ _ (hSB.out v1 hBa) (fun hHeld => ?_)
                  clear hKc Kc
                  try simp only [Act.put, List.setIfInBounds_toArray, List.set_cons_zero, List.set_cons_succ]
                  have c1v := keeps_below hBa _ _ c1
                  refine wpAnyH_ready (rs := [5]) (by kernel_rfl) (by simp) ?_
                  refine AllReadyH.cons rfl (fun Kc hKc => ?_) AllReadyH.nil
                  go_simp
                  refine hKc.out _ _ (hSB.out v1 hBa) (fun hHeld => ?_)
                  clear hKc Kc
                  try simp only [Act.put, List.setIfInBounds_toArray, List.set_cons_zero, List.set_cons_succ]
                  have gA := hGA9.keep hBa.size (fun k _ h => hBa.block k h)
                  have own1 := t29.kept (grown_of_below hBa none) (by cases (Value.slice Ag R.gates.length cg).ownBlock <;> simp)
                  have hA10 := hA9.below hBa
                  have hSv1 := hSB.out v1 hBa
                  have hl10 := hl9.kept (grown_of_below hBa none) (by cases (Value.slice A l.length c).ownBlock <;> simp)
                  have t40 := t39.kept (grown_of_below hBa none) (by cases (Value.slice Aa na ca).ownBlock <;> simp)
                  have hPre10 : PreAt v1 n0 n1 pv R.pre := hPre9.keep (fun k h1 h2 => hBa.block k (by omega))
                  refine wpAnyH_ready (rs := [8]) (by kernel_rfl) (by simp) ?_
                  refine AllReadyH.cons rfl (fun Kc hKc => ?_) AllReadyH.nil
                  obtain ⟨i0, hi0, hzz⟩ := Option.map_eq_some_iff.1 info70
                  simp only [Prod.mk.injEq] at hzz
                  obtain ⟨hz0', hz1', hz2'⟩ := hzz
                  refine step_append_lies (w := v1) (by rfl) _ _ 38 (by rfl) n1 88 i0 (.agg #[.int .i64 0, .int .u8 0, .slice none 0 0]) 3 40 Tryz.underlying38 hi0 hz0' hz1' hz2' rfl (by decide) (.slice Ag R.gates.length cg) R.gates.length (gcells ts0) (by rfl) own1 ⟨v0.heap.size, 0, none⟩ 1 1 [.int .i64 (v : Int), .int .u8 (4 : Int), .slice A l.length c] (by rfl) rfl (World.news_of_block qa) (by intro u hu; simp at hu; rcases hu with rfl | rfl | rfl <;> rfl) (by decide) (by simp only [maxLen]; omega) (by omega) (by omega) v1.heap.size rfl ?_
                  intro g9 cap9 v2 hO9 hG9 hb9 hlt9
                  have A11 := hA10.grown hG9 (fun e => by have := (hglt r e).1; omega) (fun e => by have := (hglt q e).1; omega)
                  have hgbg : (Value.slice Ag R.gates.length cg).ownBlock ≠ some gb := fun e => by have := (hglt gb e).2; omega
                  have hSv2 := And.intro (hG9.cell hSv1.1 (fun e => hgbg e.symm)) (And.intro (hG9.cell hSv1.2.1 (fun e => hgbg e.symm)) (hG9.cell hSv1.2.2 (fun e => hgbg e.symm)))
                  refine hKc.out _ _ hSv2 (fun hHeld => ?_)
                  clear hKc Kc
                  try simp only [Act.put, List.setIfInBounds_toArray, List.set_cons_zero, List.set_cons_succ]
                  refine wpAnyH_take (i := 9) (v := ?vn66) rfl (by kernel_rfl) (by kernel_rfl) (by kernel_rfl) (fun _ _ _ h => h) (Or.inl ⟨by rfl, ?yn66⟩) hHeld ?_
                  case yn66 => (intro w' hSw; (try dsimp only at hSw); go_simp); (try with_reducible rfl)
                  try simp only [Act.put, List.setIfInBounds_toArray, List.set_cons_zero, List.set_cons_succ]
                  refine wpAnyH_take (i := 10) (v := ?vn67) rfl (by kernel_rfl) (by kernel_rfl) (by kernel_rfl) (fun _ _ _ h => h) (Or.inl ⟨by rfl, ?yn67⟩) hHeld ?_
                  case yn67 => (intro w' hSw; (try dsimp only at hSw); go_simp); (try with_reducible rfl)
                  try simp only [Act.put, List.setIfInBounds_toArray, List.set_cons_zero, List.set_cons_succ]
                  refine wpAnyH_take (i := 11) (v := ?vn68) rfl (by kernel_rfl) (by kernel_rfl) (by kernel_rfl) (fun _ _ _ h => h) (Or.inl ⟨by rfl, ?yn68⟩) hHeld ?_
                  case yn68 => (intro w' hSw; (try dsimp only at hSw); go_simp); (try with_reducible rfl)
                  try simp only [Act.put, List.setIfInBounds_toArray, List.set_cons_zero, List.set_cons_succ]
                  have k1 := cell_row A11.row (j := 1) (v := .slice Ag R.gates.length cg) rfl
                  have kf1 := frozen_of_row _ _ 1 _ _ A11.row
                  have g12 : v2.grownBy (v2.setCell ⟨r, 1, none⟩ (.slice (some ⟨g9, 0, none⟩) (R.gates.length + 1) cap9)) (some r) := grown_setCell v2 ⟨r, 1, none⟩ _
                  have A12 : RwAt (v2.setCell ⟨r, 1, none⟩ (.slice (some ⟨g9, 0, none⟩) (R.gates.length + 1) cap9)) r q pv (.slice (some ⟨g9, 0, none⟩) (R.gates.length + 1) cap9) (.slice Aa na ca) { R with seen := upd R.seen v true, lits := R.lits + l.length, gates := R.gates ++ [⟨(v : Int), (4 : Int), l⟩] } := A11.put 1 _ rfl rfl
                  have hSv3 := And.intro (g12.cell hSv2.1 (by intro e; injection e with e; exact hgbr e)) (And.intro (g12.cell hSv2.2.1 (by intro e; injection e with e; exact hgbr e)) (g12.cell hSv2.2.2 (by intro e; injection e with e; exact hgbr e)))
                  refine wpAnyH_ready (rs := [12]) (by kernel_rfl) (by simp) ?_
                  refine AllReadyH.cons rfl (fun Kc hKc => ?_) AllReadyH.nil
                  go_simp
                  refine hKc.out _ _ hSv3 (fun hHeld => ?_)
                  clear hKc Kc
                  try simp only [Act.put, List.setIfInBounds_toArray, List.set_cons_zero, List.set_cons_succ]
                  refine wpAnyH_done (by kernel_rfl) ?_ _
                  have gB := GA.pushG (n := wL.heap.size) (x := ⟨(v : Int), (4 : Int), l⟩) (w1 := v2) gA ⟨by unfold I64; simp only []; omega, by simp only []; omega, by simp only []; omega⟩ (ints_of_own hl10 (fun y hy => by have := hx y hy; unfold I64; omega) (by omega)) (fun b e => hl10.lt b e) hn1L (fun b e => (hglt b e).2) (fun b e => (halt b e).2) (fun xs' h' => by rw [own_unique h' own1]; exact hO9) hG9 (fun b e => by cases e; exact hb9.imp id (fun e => Nat.le_of_eq e.symm))
                  have gC := gB.keep g12.size (fun k h1 h2 => g12.block k h2 (by intro e; injection e with e; omega))
                  have tC := gC.ats
                  rw [HNA.out] at tC
                  have hv3s : wL.heap.size ≤ (v2.setCell ⟨r, 1, none⟩ (.slice (some ⟨g9, 0, none⟩) (R.gates.length + 1) cap9)).heap.size := by have := g12.size; have := hG9.size; omega
                  have hF12 : Fr2 n0 r q w (v2.setCell ⟨r, 1, none⟩ (.slice (some ⟨g9, 0, none⟩) (R.gates.length + 1) cap9)) := (((hF9.trans (Fr2.below (hBa.mono (by omega)))).grown (by omega) hG9 (fun k e => .inr (.inr (by have := (hglt k e).1; omega))))).grown (by have := hG9.size; omega) g12 (fun k e => by cases e; exact .inl rfl)
                  have hPre12 : PreAt (v2.setCell ⟨r, 1, none⟩ (.slice (some ⟨g9, 0, none⟩) (R.gates.length + 1) cap9)) n0 n1 pv R.pre := hPre10.keep (fun k h1 h2 => (g12.block k (by have := hG9.size; omega) (by intro e; injection e with e; omega)).trans (hG9.block k (by omega) (fun e => by have := (hglt k e.symm).1; omega)))
                  clear hHeld hSv1 hSv2 hSv3 k1 kf1
                  generalize v2.setCell ⟨r, 1, none⟩ (.slice (some ⟨g9, 0, none⟩) (R.gates.length + 1) cap9) = v3 at *
                  have k7 := cell_row A12.row (j := 7) (v := .slice Aa na ca) rfl
                  have HX7 : Hid (∀ v5, v3.grownBy v5 (Value.slice Aa na ca).ownBlock → RwAt v5 r q pv (.slice (some ⟨g9, 0, none⟩) (R.gates.length + 1) cap9) (.slice Aa na ca) { R with seen := upd R.seen v true, lits := R.lits + l.length, gates := R.gates ++ [⟨(v : Int), (4 : Int), l⟩] } ∧ v5.cell? ⟨r, 7, none⟩ = some (.slice Aa na ca) ∧ v5.frozen? ⟨r, 7, none⟩ = false) := hid (fun v5 hG => by
                    have A13 := A12.grown hG (fun e => by have := (halt r e).1; omega) (fun e => by have := (halt q e).1; omega)
                    exact ⟨A13, cell_row A13.row (j := 7) rfl, frozen_of_row _ _ 7 _ _ A13.row⟩)
                  have hn13 : n1 ≤ v3.heap.size := by omega
                  have hb88 : (na + 1) * 8 ≤ 140737488355328 := by omega
                  have HGC := hid gC
                  have HPR := hid hPre12
                  clear gA gB gC hGA9 hA9 hA10 A11 hl9 hl10 t29 t39 t40 own1 hPre9 hPre10 hPre12 c1
                  go_wp2_with (first | (at_builtin; refine append_one n1 rfl _ _ 48 3 (.int .i64 0) 1 8 rfl Tryz.underlying48 info3 rfl (by decide) (by decide) (.slice Aa na ca) na (nums (natI (R.outAt :: R.at_))) #[.int .i64 (no : Int)] rfl rfl rfl (by intro u hu; simp at hu; subst hu; rfl) tC hn13 hb88 ?_; intro ga cap4 v5 hO5 hG5 hg5 hb5 hlt5; obtain ⟨A13, c7, f7⟩ := HX7.out v5 hG5) | fail)
                  go_ret
                  unfold AddPost
                  rw [HP.out]
                  have g14 : v5.grownBy (v5.setCell ⟨r, 7, none⟩ (.slice (some ⟨ga, 0, none⟩) (na + 1) cap4)) (some r) := grown_setCell v5 ⟨r, 7, none⟩ _
                  have A14 : RwAt (v5.setCell ⟨r, 7, none⟩ (.slice (some ⟨ga, 0, none⟩) (na + 1) cap4)) r q pv (.slice (some ⟨g9, 0, none⟩) (R.gates.length + 1) cap9) (.slice (some ⟨ga, 0, none⟩) (na + 1) cap4) { R with seen := upd R.seen v true, lits := R.lits + l.length, gates := R.gates ++ [⟨(v : Int), (4 : Int), l⟩], at_ := R.at_ ++ [no] } := A13.put 7 _ rfl rfl
                  have hk := HR.out.ok
                  have gD := GA.pushA (w1 := v5) (av1 := .slice (some ⟨ga, 0, none⟩) (na + 1) cap4) no HGC.out (by rw [HNA.out]; exact hO5) hG5 (fun b e => by cases e; exact hg5)
                  have h5s := hG5.size
                  have h14s := g14.size
                  refine ⟨rfl, (hF12.grown (by omega) hG5 (fun k e => .inr (.inr (by have := (halt k e).1; omega)))).grown (by omega) g14 (fun k e => by cases e; exact .inl rfl), fun _ => ⟨hrn, hqn, by omega, ⟨hk.vars, hk.nv, by have := HOV.out; simp only []; omega, hk.pre, Nat.le_succ_of_le hk.prel, ?_, ?_, ?_, hk.out⟩, _, _, _, A14, .inr ⟨HD.out, n1, hn01, by omega, ?_, ?_⟩⟩⟩
                  · have := hk.gl; simp only [List.length_append, List.length_cons, List.length_nil]; omega
                  · have := hk.al; simp only [List.length_append, List.length_cons, List.length_nil]; omega
                  · intro g hg
                    rcases List.mem_append.1 hg with hg | hg
                    · exact hk.gs g hg
                    · rw [List.mem_singleton.1 hg]
                      exact ⟨⟨by simp only []; omega, by simp only []; omega⟩, ⟨by simp only []; omega, by simp only []; omega⟩, hx⟩
                  · exact HPR.out.keep (fun k h1 h2 => (g14.block k (by omega) (by intro e; injection e with e; omega)).trans (hG5.block k (by omega) (fun e => by have := (halt k e.symm).1; omega)))
                  · exact gD.keep g14.size (fun k h1 h2 => g14.block k h2 (by intro e; injection e with e; omega))
          · have hz2 : ((l.length : Int) != 3) = true := bne_iff_ne.2 (by omega)
            have HP := hid (show addL R no (.gate v 4 l) = (2, R) by
              rw [addL_gate, if_neg (by rw [HD.out]; simp), if_pos (.inr ⟨rfl, hn3⟩)])
            clear hn3
            go_wp2_with fail
            go_ret
            unfold AddPost
            rw [HP.out]
            exact ⟨rfl, hF1.trans (Fr2.below (hB5.mono hn1)), fun h => absurd h (by simp)⟩
        · have hz4 : ((kd : Int) == 4) = false := beq_eq_false_iff_ne.2 (by omega)
          have HAR : Hid (¬ ((kd = 3 ∧ l.length ≠ 2) ∨ (kd = 4 ∧ l.length ≠ 3))) := hid (by omega)
          clear h3 h4
          go_wp2_with fail
          have hA5 := hA1.below hB5
          have hF5 := hF1.trans (Fr2.below (hB5.mono hn1))
          have y1 := keeps_below hB5 _ _ z1
          have y2 := keeps_below hB5 _ _ z2
          have c3 := cell_row hA5.row (j := 3) (v := .slice (some ⟨q, 0, none⟩) 65537 65537) rfl
          have cs := hA5.seen.cell v (by omega)
          have hgbr : gb ≠ r := by omega
          have hgbq : gb ≠ q := by omega
          cases hS : R.seen v with
          | true =>
            rw [hS] at cs
            have HP := hid (show addL R no (.gate v kd l) = (7, R) by
              rw [addL_gate, if_neg (by rw [HD.out]; simp), if_neg (by simpa using HAR.out), if_pos (by rw [Int.toNat_natCast]; exact hS)])
            clear hS
            go_wp2_with fail
            go_quiet (fail)
            go_wp2_with fail
            go_ret
            unfold AddPost
            rw [HP.out]
            exact ⟨rfl, hF5.trans (Fr2.below (below_drewN (Below.refl _ _) _)), fun h => absurd h (by simp)⟩
          | false =>
            rw [hS] at cs
            have HS := hid hS
            clear hS
            go_wp2_with fail
            go_quiet (fail)
            go_wp2_with fail
            have hAd : RwAt (w5.drewN nq) r q pv gv av R := hA5.heap rfl rfl
            have hBd5 : Below w1.heap.size w1 (w5.drewN nq) := below_drewN hB5 _
            have yd2 : (w5.drewN nq).cell? ⟨w.heap.size, 2, none⟩ = some (.int .i64 (v : Int)) := y2
            have cd3 : (w5.drewN nq).cell? ⟨r, 3, none⟩ = some (.slice (some ⟨q, 0, none⟩) 65537 65537) := c3
            have rrd : (w5.drewN nq).heap[gb]? = some (.cells #[.int .i64 (v : Int), .int .u8 (kd : Int), .slice A l.length c] 88 (0, 0)) := rr
            have hFd : Fr2 n0 r q w (w5.drewN nq) := hF5.trans (Fr2.below (below_drewN (Below.refl _ _) _))
            clear cs y1 y2 c3 g0 g1 g2 rr hA5 hB5 hF5
            generalize w5.drewN nq = w6 at *
            have l1 := fun p => cell_since yd2 p
            have l2 := fun p => cell_since cd3 p
            refine region_tail 7 (by kernel_rfl) (by kernel_rfl) ?_
            simp only [List.take_succ_cons, List.take_zero, List.drop_succ_cons, List.drop_zero]
            repeat (first | go_big_quiet_step (fail) | quiet_step (fail))
            refine wpQuiet_nil ?_
            rintro W ⟨pw, hW⟩
            have hBW : Below w6.heap.size w6 W := by rw [hW]; exact since_below w6 pw
            have hAW := hAd.below hBW
            have csW := hAW.seen.cell v (by omega)
            have cfW := hAW.seen.free v
            have hA7 : RwAt (W.setCell ⟨q, v, none⟩ (.bool true)) r q pv gv av { R with seen := upd R.seen v true } :=
              ⟨(heap_setCell_other W ⟨q, v, none⟩ r _ hAW.ne).trans hAW.row, hAW.seen.store v true, hAW.ne⟩
            have gq : W.grownBy (W.setCell ⟨q, v, none⟩ (.bool true)) (some q) := grown_setCell W ⟨q, v, none⟩ _
            obtain ⟨w7, hw7⟩ : ∃ w7, W.setCell ⟨q, v, none⟩ (.bool true) = w7 := ⟨_, rfl⟩
            rw [hw7] at hA7 gq
            have rr7 := row_grown (row_below rrd hBW) gq (by intro e; injection e with e; exact hgbq e.symm)
            have hlv : R.lits ≤ 200000 := HR.out.ok.lits
            have c5 := cell_row hA7.row (j := 5) (v := .int .i64 (R.lits : Int)) rfl
            have f5 := frozen_of_row _ _ 5 _ _ hA7.row
            have hwl : IntKind.i64.wrap ((R.lits : Int) + (l.length : Int)) = (R.lits : Int) + (l.length : Int) := IntWalk.i64_in _ (by omega)
            have hA8 : RwAt (w7.setCell ⟨r, 5, none⟩ (.int .i64 ((R.lits : Int) + (l.length : Int)))) r q pv gv av { R with seen := upd R.seen v true, lits := R.lits + l.length } := hA7.put 5 _ rfl (by simp [stg])
            have gr8 : w7.grownBy (w7.setCell ⟨r, 5, none⟩ (.int .i64 ((R.lits : Int) + (l.length : Int)))) (some r) := grown_setCell w7 ⟨r, 5, none⟩ _
            obtain ⟨w8, hw8⟩ : ∃ w8, w7.setCell ⟨r, 5, none⟩ (.int .i64 ((R.lits : Int) + (l.length : Int))) = w8 := ⟨_, rfl⟩
            rw [hw8] at hA8 gr8
            have rr8 := row_grown rr7 gr8 (by intro e; injection e with e; exact hgbr e.symm)
            have hFs := hFd.size
            have hBs := hBW.size
            have hgs := gq.size
            have h8s := gr8.size
            have hn6 : n0 ≤ w6.heap.size := by omega
            have hF8 := ((hFd.trans (Fr2.below (hBW.mono hn6))).grown (by omega) gq (fun k e => by cases e; exact .inr (.inl rfl))).grown (by omega) gr8 (fun k e => by cases e; exact .inl rfl)
            have u5 := cell_row hA8.row (j := 5) (v := .int .i64 (((R.lits + l.length : Nat)) : Int)) rfl
            rw [Int.natCast_add] at u5
            have G0 := cell_row rr8 (j := 0) (v := .int .i64 (v : Int)) rfl
            have G1 := cell_row rr8 (j := 1) (v := .int .u8 (kd : Int)) rfl
            have G2 := cell_row rr8 (j := 2) (v := .slice A l.length c) rfl
            clear l1 l2 hW yd2 cd3
            by_cases hov : 200000 < R.lits + l.length
            · have HP := hid (show addL R no (.gate v kd l) = (3, R) by
                rw [addL_gate, if_neg (by rw [HD.out]; simp), if_neg (by simpa using HAR.out), if_neg (by rw [Int.toNat_natCast, HS.out]; simp), if_pos hov])
              have hov2 : (200000 : Int) < (R.lits : Int) + (l.length : Int) := by omega
              clear hov
              go_wp2_with fail
              go_ret
              unfold AddPost
              rw [HP.out]
              exact ⟨rfl, hF8, fun h => absurd h (by simp)⟩
            · have hov2 : decide ((200000 : Int) < (R.lits : Int) + (l.length : Int)) = false := decide_eq_false (by omega)
              have HOV := hid hov
              clear hov
              have HP := hid (show addL R no (.gate v kd l) = (0, { R with seen := upd R.seen v true, lits := R.lits + l.length, gates := R.gates ++ [⟨v, kd, l⟩], at_ := R.at_ ++ [no] }) by
                rw [addL_gate, if_neg (by rw [HD.out]; simp), if_neg (by simpa using HAR.out), if_neg (by rw [Int.toNat_natCast, HS.out]; simp), if_neg HOV.out, Int.toNat_natCast]
                try rfl)
              obtain ⟨n1, hn01, hn1L, hPre, hGA⟩ : ∃ n1, n0 ≤ n1 ∧ n1 ≤ wL.heap.size ∧ PreAt wL n0 n1 pv R.pre ∧ GA wL n1 gv av R.gates (R.outAt :: R.at_) := by
                rcases HPH.out with ⟨h0, _⟩ | ⟨_, n1, h1, h2, h3, h4⟩
                · rw [HD.out] at h0; cases h0
                · exact ⟨n1, h1, h2, h3, h4⟩
              have hLw1 : wL.heap.size ≤ w1.heap.size := hBL1.size
              have h16 := hBd5.size
              have hK8 : ∀ k, n0 ≤ k → k < wL.heap.size → w8.heap[k]? = wL.heap[k]? := fun k h1 h2 => by
                rw [gr8.block k (by omega) (by intro e; injection e with e; omega), gq.block k (by omega) (by intro e; injection e with e; omega), hBW.block k (by omega), hBd5.block k (by omega)]
                exact hBL1.block k h2
              have hGA8 := hGA.keep (w' := w8) (by omega) (fun k h1 h2 => hK8 k (by omega) h2)
              have hPre8 : PreAt w8 n0 n1 pv R.pre := hPre.keep (fun k h1 h2 => hK8 k h1 (by omega))
              have hl8 : w8.ownsRow wL.heap.size 3 1 (.slice A l.length c) l.length (nums l) := row_kept hl1 (fun k h1 h2 _ => by
                rw [gr8.block k (by omega) (by intro e; injection e with e; omega), gq.block k (by omega) (by intro e; injection e with e; omega), hBW.block k (by omega), hBd5.block k h2])
              have hglt : ∀ b, gv.ownBlock = some b → n1 ≤ b ∧ b < wL.heap.size := fun b e => by
                obtain ⟨ts, L, k1, k2, k3, k4, k5, k6⟩ := hGA
                exact k2.lt b e
              have halt : ∀ b, av.ownBlock = some b → n1 ≤ b ∧ b < wL.heap.size := fun b e => hGA.ats.lt b e
              obtain ⟨ts0, L0, t1, t2, t3, t4, t5, t6⟩ := hGA8
              obtain ⟨Ag, cg, rfl⟩ := own_shape t2
              obtain ⟨na, hna⟩ : ∃ na, (R.outAt :: R.at_).length = na := ⟨_, rfl⟩
              have t3' := t3
              rw [hna] at t3'
              obtain ⟨Aa, ca, rfl⟩ := own_shape t3'
              have HNA := hid hna
              have hnal : na ≤ 4194306 := by have h1 := HR.out.ok.gl; have h2 := HR.out.ok.al; simp only [List.length_cons] at hna; omega
              clear hna
              have hGA8' : GA w8 n1 (.slice Ag R.gates.length cg) (.slice Aa na ca) R.gates (R.outAt :: R.at_) := ⟨ts0, L0, t1, t2, t3, t4, t5, t6⟩
              have c1 : w8.drew.cell? ⟨r, 1, none⟩ = some (.slice Ag R.gates.length cg) := cell_row hA8.row (j := 1) rfl
              have hA9 : RwAt w8.drew r q pv (.slice Ag R.gates.length cg) (.slice Aa na ca) { R with seen := upd R.seen v true, lits := R.lits + l.length } := hA8.heap rfl rfl
              have hGA9 : GA w8.drew n1 (.slice Ag R.gates.length cg) (.slice Aa na ca) R.gates (R.outAt :: R.at_) := hGA8'.keep (Nat.le_refl _) (fun _ _ _ => rfl)
              have hPre9 : PreAt w8.drew n0 n1 pv R.pre := hPre8.keep (fun _ _ _ => rfl)
              have hl9 : w8.drew.ownsRow wL.heap.size 3 1 (.slice A l.length c) l.length (nums l) := hl8
              have t39 : w8.drew.ownsRow n1 3 1 (.slice Aa na ca) na (nums (natI (R.outAt :: R.at_))) := t3'
              have t29 : w8.drew.ownsRow n1 88 3 (.slice Ag R.gates.length cg) R.gates.length (gcells ts0) := t2
              have hS9 : (fun W => W.cell? ⟨gb, 0, none⟩ = some (.int .i64 (v : Int)) ∧ W.cell? ⟨gb, 1, none⟩ = some (.int .u8 (kd : Int)) ∧ W.cell? ⟨gb, 2, none⟩ = some (.slice A l.length c)) w8.drew := ⟨G0, G1, G2⟩
              have hF9 : Fr2 n0 r q w w8.drew := hF8.trans ⟨rfl, rfl, rfl, Nat.le_refl _, fun _ _ _ _ => rfl⟩
              have hn9 : wL.heap.size ≤ w8.drew.heap.size := by show _ ≤ w8.heap.size; omega
              have hgb9 : gb < w8.drew.heap.size := row_lt rr8
              have hgL : R.gates.length ≤ 4194305 := by have := HR.out.ok.gl; omega
              have haL : R.at_.length = R.gates.length := HR.out.ok.al
              go_wp2_with fail
              refine wp_region_held_drew (S := (fun W => W.cell? ⟨gb, 0, none⟩ = some (.int .i64 (v : Int)) ∧ W.cell? ⟨gb, 1, none⟩ = some (.int .u8 (kd : Int)) ∧ W.cell? ⟨gb, 2, none⟩ = some (.slice A l.length c))) (by kernel_rfl) hS9 (fun hHeld => ?_)
              clear c5 f5 u5 G0 G1 G2 rr8 hA8 hGA8' hPre8 hl8 t2 t3 t3' t4 t5 t6 hK8 gr8
              generalize w8.drew = v0 at *
              have hSB : Hid (∀ W, Below v0.heap.size v0 W → (fun W => W.cell? ⟨gb, 0, none⟩ = some (.int .i64 (v : Int)) ∧ W.cell? ⟨gb, 1, none⟩ = some (.int .u8 (kd : Int)) ∧ W.cell? ⟨gb, 2, none⟩ = some (.slice A l.length c)) W) := hid (fun W hW => ⟨keeps_below hW _ _ hS9.1, keeps_below hW _ _ hS9.2.1, keeps_below hW _ _ hS9.2.2⟩)
              have hAl2 : Hid (∀ W : World, ∃ w2, W.alloc (.cells #[.int .i64 (v : Int), .int .u8 (kd : Int), .slice A l.length c] 88) = w2 ∧ Below W.heap.size W w2 ∧ w2.heap.size = W.heap.size + 1 ∧ w2.heap[W.heap.size]? = some (.cells #[.int .i64 (v : Int), .int .u8 (kd : Int), .slice A l.length c] 88 (0, 0))) := hid (fun W => by
                obtain ⟨w1, hw1, -, -, hz1, hB1, q1⟩ := new_block W #[.int .i64 (v : Int), .int .u8 (kd : Int), .slice A l.length c] 88
                exact ⟨w1, hw1, hB1, hz1, q1⟩)
              refine wpAnyH_take (i := 0) (v := ?vn69) rfl (by kernel_rfl) (by kernel_rfl) (by kernel_rfl) (fun _ _ _ h => h) (Or.inl ⟨by rfl, ?yn69⟩) hHeld ?_
              case yn69 => (intro w' hSw; (try dsimp only at hSw); go_simp); (try with_reducible rfl)
              try simp only [Act.put, List.setIfInBounds_toArray, List.set_cons_zero, List.set_cons_succ]
              refine wpAnyH_take (i := 1) (v := ?vn70) rfl (by kernel_rfl) (by kernel_rfl) (by kernel_rfl) (fun _ _ _ h => h) (Or.inl ⟨by rfl, ?yn70⟩) hHeld ?_
              case yn70 => (intro w' hSw; (try dsimp only at hSw); go_simp); (try with_reducible rfl)
              try simp only [Act.put, List.setIfInBounds_toArray, List.set_cons_zero, List.set_cons_succ]
              refine wpAnyH_take (i := 2) (v := ?vn71) rfl (by kernel_rfl) (by kernel_rfl) (by kernel_rfl) (fun _ _ _ h => h) (Or.inl ⟨by rfl, ?yn71⟩) hHeld ?_
              case yn71 => (intro w' hSw; (try dsimp only at hSw); go_simp); (try with_reducible rfl)
              try simp only [Act.put, List.setIfInBounds_toArray, List.set_cons_zero, List.set_cons_succ]
              refine wpAnyH_take (i := 3) (v := ?vn72) rfl (by kernel_rfl) (by kernel_rfl) (by kernel_rfl) (fun _ _ _ h => h) (Or.inl ⟨by rfl, ?yn72⟩) hHeld ?_
              case yn72 => (intro w' hSw; (try dsimp only at hSw); go_simp); (try with_reducible rfl)
              try simp only [Act.put, List.setIfInBounds_toArray, List.set_cons_zero, List.set_cons_succ]
              refine wpAnyH_take (i := 4) (v := ?vn73) rfl (by kernel_rfl) (by kernel_rfl) (by kernel_rfl) (fun _ _ _ h => h) (Or.inl ⟨by rfl, ?yn73⟩) hHeld ?_
              case yn73 => (intro w' hSw; (try dsimp only at hSw); go_simp); (try with_reducible rfl)
              try simp only [Act.put, List.setIfInBounds_toArray, List.set_cons_zero, List.set_cons_succ]
              refine wpAnyH_take (i := 6) (v := ?vn74) rfl (by kernel_rfl) (by kernel_rfl) (by kernel_rfl) (fun _ _ _ h => h) (Or.inl ⟨by rfl, ?yn74⟩) hHeld ?_
              case yn74 => (intro w' hSw; (try dsimp only at hSw); go_simp); (try with_reducible rfl)
              try simp only [Act.put, List.setIfInBounds_toArray, List.set_cons_zero, List.set_cons_succ]
              refine wpAnyH_ready (rs := [5,7]) (by kernel_rfl) (by simp) ?_
              refine AllReadyH.cons rfl (fun Kc hKc => ?_) (AllReadyH.cons rfl (fun Kc hKc => ?_) AllReadyH.nil)
              · skip
                go_simp
                refine hKc.out _ _ hS9 (fun hHeld => ?_)
                clear hKc Kc
                try simp only [Act.put, List.setIfInBounds_toArray, List.set_cons_zero, List.set_cons_succ]
                refine wpAnyH_ready (rs := [7]) (by kernel_rfl) (by simp) ?_
                refine AllReadyH.cons rfl (fun Kc hKc => ?_) AllReadyH.nil
                obtain ⟨v1, hv1, hBa, hza, qa⟩ := hAl2.out v0
                go_simp
                refine hKc.out _ _ (hSB.out v1 hBa) (fun hHeld => ?_)
                clear hKc Kc
                try simp only [Act.put, List.setIfInBounds_toArray, List.set_cons_zero, List.set_cons_succ]
                have gA := hGA9.keep hBa.size (fun k _ h => hBa.block k h)
                have own1 := t29.kept (grown_of_below hBa none) (by cases (Value.slice Ag R.gates.length cg).ownBlock <;> simp)
                have hA10 := hA9.below hBa
                have hSv1 := hSB.out v1 hBa
                have hl10 := hl9.kept (grown_of_below hBa none) (by cases (Value.slice A l.length c).ownBlock <;> simp)
                have t40 := t39.kept (grown_of_below hBa none) (by cases (Value.slice Aa na ca).ownBlock <;> simp)
                have hPre10 : PreAt v1 n0 n1 pv R.pre := hPre9.keep (fun k h1 h2 => hBa.block k (by omega))
                refine wpAnyH_ready (rs := [8]) (by kernel_rfl) (by simp) ?_
                refine AllReadyH.cons rfl (fun Kc hKc => ?_) AllReadyH.nil
                obtain ⟨i0, hi0, hzz⟩ := Option.map_eq_some_iff.1 info70
                simp only [Prod.mk.injEq] at hzz
                obtain ⟨hz0', hz1', hz2'⟩ := hzz
                refine step_append_lies (w := v1) (by rfl) _ _ 38 (by rfl) n1 88 i0 (.agg #[.int .i64 0, .int .u8 0, .slice none 0 0]) 3 40 Tryz.underlying38 hi0 hz0' hz1' hz2' rfl (by decide) (.slice Ag R.gates.length cg) R.gates.length (gcells ts0) (by rfl) own1 ⟨v0.heap.size, 0, none⟩ 1 1 [.int .i64 (v : Int), .int .u8 (kd : Int), .slice A l.length c] (by rfl) rfl (World.news_of_block qa) (by intro u hu; simp at hu; rcases hu with rfl | rfl | rfl <;> rfl) (by decide) (by simp only [maxLen]; omega) (by omega) (by omega) v1.heap.size rfl ?_
                intro g9 cap9 v2 hO9 hG9 hb9 hlt9
                have A11 := hA10.grown hG9 (fun e => by have := (hglt r e).1; omega) (fun e => by have := (hglt q e).1; omega)
                have hgbg : (Value.slice Ag R.gates.length cg).ownBlock ≠ some gb := fun e => by have := (hglt gb e).2; omega
                have hSv2 := And.intro (hG9.cell hSv1.1 (fun e => hgbg e.symm)) (And.intro (hG9.cell hSv1.2.1 (fun e => hgbg e.symm)) (hG9.cell hSv1.2.2 (fun e => hgbg e.symm)))
                refine hKc.out _ _ hSv2 (fun hHeld => ?_)
                clear hKc Kc
                try simp only [Act.put, List.setIfInBounds_toArray, List.set_cons_zero, List.set_cons_succ]
                refine wpAnyH_take (i := 9) (v := ?vn75) rfl (by kernel_rfl) (by kernel_rfl) (by kernel_rfl) (fun _ _ _ h => h) (Or.inl ⟨by rfl, ?yn75⟩) hHeld ?_
                case yn75 => (intro w' hSw; (try dsimp only at hSw); go_simp); (try with_reducible rfl)
                try simp only [Act.put, List.setIfInBounds_toArray, List.set_cons_zero, List.set_cons_succ]
                refine wpAnyH_take (i := 10) (v := ?vn76) rfl (by kernel_rfl) (by kernel_rfl) (by kernel_rfl) (fun _ _ _ h => h) (Or.inl ⟨by rfl, ?yn76⟩) hHeld ?_
                case yn76 => (intro w' hSw; (try dsimp only at hSw); go_simp); (try with_reducible rfl)
                try simp only [Act.put, List.setIfInBounds_toArray, List.set_cons_zero, List.set_cons_succ]
                refine wpAnyH_take (i := 11) (v := ?vn77) rfl (by kernel_rfl) (by kernel_rfl) (by kernel_rfl) (fun _ _ _ h => h) (Or.inl ⟨by rfl, ?yn77⟩) hHeld ?_
                case yn77 => (intro w' hSw; (try dsimp only at hSw); go_simp); (try with_reducible rfl)
                try simp only [Act.put, List.setIfInBounds_toArray, List.set_cons_zero, List.set_cons_succ]
                have k1 := cell_row A11.row (j := 1) (v := .slice Ag R.gates.length cg) rfl
                have kf1 := frozen_of_row _ _ 1 _ _ A11.row
                have g12 : v2.grownBy (v2.setCell ⟨r, 1, none⟩ (.slice (some ⟨g9, 0, none⟩) (R.gates.length + 1) cap9)) (some r) := grown_setCell v2 ⟨r, 1, none⟩ _
                have A12 : RwAt (v2.setCell ⟨r, 1, none⟩ (.slice (some ⟨g9, 0, none⟩) (R.gates.length + 1) cap9)) r q pv (.slice (some ⟨g9, 0, none⟩) (R.gates.length + 1) cap9) (.slice Aa na ca) { R with seen := upd R.seen v true, lits := R.lits + l.length, gates := R.gates ++ [⟨(v : Int), (kd : Int), l⟩] } := A11.put 1 _ rfl rfl
                have hSv3 := And.intro (g12.cell hSv2.1 (by intro e; injection e with e; exact hgbr e)) (And.intro (g12.cell hSv2.2.1 (by intro e; injection e with e; exact hgbr e)) (g12.cell hSv2.2.2 (by intro e; injection e with e; exact hgbr e)))
                refine wpAnyH_ready (rs := [12]) (by kernel_rfl) (by simp) ?_
                refine AllReadyH.cons rfl (fun Kc hKc => ?_) AllReadyH.nil
                go_simp
                refine hKc.out _ _ hSv3 (fun hHeld => ?_)
                clear hKc Kc
                try simp only [Act.put, List.setIfInBounds_toArray, List.set_cons_zero, List.set_cons_succ]
                refine wpAnyH_done (by kernel_rfl) ?_ _
                have gB := GA.pushG (n := wL.heap.size) (x := ⟨(v : Int), (kd : Int), l⟩) (w1 := v2) gA ⟨by unfold I64; simp only []; omega, by simp only []; omega, by simp only []; omega⟩ (ints_of_own hl10 (fun y hy => by have := hx y hy; unfold I64; omega) (by omega)) (fun b e => hl10.lt b e) hn1L (fun b e => (hglt b e).2) (fun b e => (halt b e).2) (fun xs' h' => by rw [own_unique h' own1]; exact hO9) hG9 (fun b e => by cases e; exact hb9.imp id (fun e => Nat.le_of_eq e.symm))
                have gC := gB.keep g12.size (fun k h1 h2 => g12.block k h2 (by intro e; injection e with e; omega))
                have tC := gC.ats
                rw [HNA.out] at tC
                have hv3s : wL.heap.size ≤ (v2.setCell ⟨r, 1, none⟩ (.slice (some ⟨g9, 0, none⟩) (R.gates.length + 1) cap9)).heap.size := by have := g12.size; have := hG9.size; omega
                have hF12 : Fr2 n0 r q w (v2.setCell ⟨r, 1, none⟩ (.slice (some ⟨g9, 0, none⟩) (R.gates.length + 1) cap9)) := (((hF9.trans (Fr2.below (hBa.mono (by omega)))).grown (by omega) hG9 (fun k e => .inr (.inr (by have := (hglt k e).1; omega))))).grown (by have := hG9.size; omega) g12 (fun k e => by cases e; exact .inl rfl)
                have hPre12 : PreAt (v2.setCell ⟨r, 1, none⟩ (.slice (some ⟨g9, 0, none⟩) (R.gates.length + 1) cap9)) n0 n1 pv R.pre := hPre10.keep (fun k h1 h2 => (g12.block k (by have := hG9.size; omega) (by intro e; injection e with e; omega)).trans (hG9.block k (by omega) (fun e => by have := (hglt k e.symm).1; omega)))
                clear hHeld hSv1 hSv2 hSv3 k1 kf1
                generalize v2.setCell ⟨r, 1, none⟩ (.slice (some ⟨g9, 0, none⟩) (R.gates.length + 1) cap9) = v3 at *
                have k7 := cell_row A12.row (j := 7) (v := .slice Aa na ca) rfl
                have HX7 : Hid (∀ v5, v3.grownBy v5 (Value.slice Aa na ca).ownBlock → RwAt v5 r q pv (.slice (some ⟨g9, 0, none⟩) (R.gates.length + 1) cap9) (.slice Aa na ca) { R with seen := upd R.seen v true, lits := R.lits + l.length, gates := R.gates ++ [⟨(v : Int), (kd : Int), l⟩] } ∧ v5.cell? ⟨r, 7, none⟩ = some (.slice Aa na ca) ∧ v5.frozen? ⟨r, 7, none⟩ = false) := hid (fun v5 hG => by
                  have A13 := A12.grown hG (fun e => by have := (halt r e).1; omega) (fun e => by have := (halt q e).1; omega)
                  exact ⟨A13, cell_row A13.row (j := 7) rfl, frozen_of_row _ _ 7 _ _ A13.row⟩)
                have hn13 : n1 ≤ v3.heap.size := by omega
                have hb88 : (na + 1) * 8 ≤ 140737488355328 := by omega
                have HGC := hid gC
                have HPR := hid hPre12
                clear gA gB gC hGA9 hA9 hA10 A11 hl9 hl10 t29 t39 t40 own1 hPre9 hPre10 hPre12 c1
                go_wp2_with (first | (at_builtin; refine append_one n1 rfl _ _ 48 3 (.int .i64 0) 1 8 rfl Tryz.underlying48 info3 rfl (by decide) (by decide) (.slice Aa na ca) na (nums (natI (R.outAt :: R.at_))) #[.int .i64 (no : Int)] rfl rfl rfl (by intro u hu; simp at hu; subst hu; rfl) tC hn13 hb88 ?_; intro ga cap4 v5 hO5 hG5 hg5 hb5 hlt5; obtain ⟨A13, c7, f7⟩ := HX7.out v5 hG5) | fail)
                go_ret
                unfold AddPost
                rw [HP.out]
                have g14 : v5.grownBy (v5.setCell ⟨r, 7, none⟩ (.slice (some ⟨ga, 0, none⟩) (na + 1) cap4)) (some r) := grown_setCell v5 ⟨r, 7, none⟩ _
                have A14 : RwAt (v5.setCell ⟨r, 7, none⟩ (.slice (some ⟨ga, 0, none⟩) (na + 1) cap4)) r q pv (.slice (some ⟨g9, 0, none⟩) (R.gates.length + 1) cap9) (.slice (some ⟨ga, 0, none⟩) (na + 1) cap4) { R with seen := upd R.seen v true, lits := R.lits + l.length, gates := R.gates ++ [⟨(v : Int), (kd : Int), l⟩], at_ := R.at_ ++ [no] } := A13.put 7 _ rfl rfl
                have hk := HR.out.ok
                have gD := GA.pushA (w1 := v5) (av1 := .slice (some ⟨ga, 0, none⟩) (na + 1) cap4) no HGC.out (by rw [HNA.out]; exact hO5) hG5 (fun b e => by cases e; exact hg5)
                have h5s := hG5.size
                have h14s := g14.size
                refine ⟨rfl, (hF12.grown (by omega) hG5 (fun k e => .inr (.inr (by have := (halt k e).1; omega)))).grown (by omega) g14 (fun k e => by cases e; exact .inl rfl), fun _ => ⟨hrn, hqn, by omega, ⟨hk.vars, hk.nv, by have := HOV.out; simp only []; omega, hk.pre, Nat.le_succ_of_le hk.prel, ?_, ?_, ?_, hk.out⟩, _, _, _, A14, .inr ⟨HD.out, n1, hn01, by omega, ?_, ?_⟩⟩⟩
                · have := hk.gl; simp only [List.length_append, List.length_cons, List.length_nil]; omega
                · have := hk.al; simp only [List.length_append, List.length_cons, List.length_nil]; omega
                · intro g hg
                  rcases List.mem_append.1 hg with hg | hg
                  · exact hk.gs g hg
                  · rw [List.mem_singleton.1 hg]
                    exact ⟨⟨by simp only []; omega, by simp only []; omega⟩, ⟨by simp only []; omega, by simp only []; omega⟩, hx⟩
                · exact HPR.out.keep (fun k h1 h2 => (g14.block k (by omega) (by intro e; injection e with e; omega)).trans (hG5.block k (by omega) (fun e => by have := (halt k e.symm).1; omega)))
                · exact gD.keep g14.size (fun k h1 h2 => g14.block k h2 (by intro e; injection e with e; omega))
              · skip
                obtain ⟨v1, hv1, hBa, hza, qa⟩ := hAl2.out v0
                go_simp
                refine hKc.out _ _ (hSB.out v1 hBa) (fun hHeld => ?_)
                clear hKc Kc
                try simp only [Act.put, List.setIfInBounds_toArray, List.set_cons_zero, List.set_cons_succ]
                have c1v := keeps_below hBa _ _ c1
                refine wpAnyH_ready (rs := [5]) (by kernel_rfl) (by simp) ?_
                refine AllReadyH.cons rfl (fun Kc hKc => ?_) AllReadyH.nil
                go_simp
                refine hKc.out _ _ (hSB.out v1 hBa) (fun hHeld => ?_)
                clear hKc Kc
                try simp only [Act.put, List.setIfInBounds_toArray, List.set_cons_zero, List.set_cons_succ]
                have gA := hGA9.keep hBa.size (fun k _ h => hBa.block k h)
                have own1 := t29.kept (grown_of_below hBa none) (by cases (Value.slice Ag R.gates.length cg).ownBlock <;> simp)
                have hA10 := hA9.below hBa
                have hSv1 := hSB.out v1 hBa
                have hl10 := hl9.kept (grown_of_below hBa none) (by cases (Value.slice A l.length c).ownBlock <;> simp)
                have t40 := t39.kept (grown_of_below hBa none) (by cases (Value.slice Aa na ca).ownBlock <;> simp)
                have hPre10 : PreAt v1 n0 n1 pv R.pre := hPre9.keep (fun k h1 h2 => hBa.block k (by omega))
                refine wpAnyH_ready (rs := [8]) (by kernel_rfl) (by simp) ?_
                refine AllReadyH.cons rfl (fun Kc hKc => ?_) AllReadyH.nil
                obtain ⟨i0, hi0, hzz⟩ := Option.map_eq_some_iff.1 info70
                simp only [Prod.mk.injEq] at hzz
                obtain ⟨hz0', hz1', hz2'⟩ := hzz
                refine step_append_lies (w := v1) (by rfl) _ _ 38 (by rfl) n1 88 i0 (.agg #[.int .i64 0, .int .u8 0, .slice none 0 0]) 3 40 Tryz.underlying38 hi0 hz0' hz1' hz2' rfl (by decide) (.slice Ag R.gates.length cg) R.gates.length (gcells ts0) (by rfl) own1 ⟨v0.heap.size, 0, none⟩ 1 1 [.int .i64 (v : Int), .int .u8 (kd : Int), .slice A l.length c] (by rfl) rfl (World.news_of_block qa) (by intro u hu; simp at hu; rcases hu with rfl | rfl | rfl <;> rfl) (by decide) (by simp only [maxLen]; omega) (by omega) (by omega) v1.heap.size rfl ?_
                intro g9 cap9 v2 hO9 hG9 hb9 hlt9
                have A11 := hA10.grown hG9 (fun e => by have := (hglt r e).1; omega) (fun e => by have := (hglt q e).1; omega)
                have hgbg : (Value.slice Ag R.gates.length cg).ownBlock ≠ some gb := fun e => by have := (hglt gb e).2; omega
                have hSv2 := And.intro (hG9.cell hSv1.1 (fun e => hgbg e.symm)) (And.intro (hG9.cell hSv1.2.1 (fun e => hgbg e.symm)) (hG9.cell hSv1.2.2 (fun e => hgbg e.symm)))
                refine hKc.out _ _ hSv2 (fun hHeld => ?_)
                clear hKc Kc
                try simp only [Act.put, List.setIfInBounds_toArray, List.set_cons_zero, List.set_cons_succ]
                refine wpAnyH_take (i := 9) (v := ?vn78) rfl (by kernel_rfl) (by kernel_rfl) (by kernel_rfl) (fun _ _ _ h => h) (Or.inl ⟨by rfl, ?yn78⟩) hHeld ?_
                case yn78 => (intro w' hSw; (try dsimp only at hSw); go_simp); (try with_reducible rfl)
                try simp only [Act.put, List.setIfInBounds_toArray, List.set_cons_zero, List.set_cons_succ]
                refine wpAnyH_take (i := 10) (v := ?vn79) rfl (by kernel_rfl) (by kernel_rfl) (by kernel_rfl) (fun _ _ _ h => h) (Or.inl ⟨by rfl, ?yn79⟩) hHeld ?_
                case yn79 => (intro w' hSw; (try dsimp only at hSw); go_simp); (try with_reducible rfl)
                try simp only [Act.put, List.setIfInBounds_toArray, List.set_cons_zero, List.set_cons_succ]
                refine wpAnyH_take (i := 11) (v := ?vn80) rfl (by kernel_rfl) (by kernel_rfl) (by kernel_rfl) (fun _ _ _ h => h) (Or.inl ⟨by rfl, ?yn80⟩) hHeld ?_
                case yn80 => (intro w' hSw; (try dsimp only at hSw); go_simp); (try with_reducible rfl)
                try simp only [Act.put, List.setIfInBounds_toArray, List.set_cons_zero, List.set_cons_succ]
                have k1 := cell_row A11.row (j := 1) (v := .slice Ag R.gates.length cg) rfl
                have kf1 := frozen_of_row _ _ 1 _ _ A11.row
                have g12 : v2.grownBy (v2.setCell ⟨r, 1, none⟩ (.slice (some ⟨g9, 0, none⟩) (R.gates.length + 1) cap9)) (some r) := grown_setCell v2 ⟨r, 1, none⟩ _
                have A12 : RwAt (v2.setCell ⟨r, 1, none⟩ (.slice (some ⟨g9, 0, none⟩) (R.gates.length + 1) cap9)) r q pv (.slice (some ⟨g9, 0, none⟩) (R.gates.length + 1) cap9) (.slice Aa na ca) { R with seen := upd R.seen v true, lits := R.lits + l.length, gates := R.gates ++ [⟨(v : Int), (kd : Int), l⟩] } := A11.put 1 _ rfl rfl
                have hSv3 := And.intro (g12.cell hSv2.1 (by intro e; injection e with e; exact hgbr e)) (And.intro (g12.cell hSv2.2.1 (by intro e; injection e with e; exact hgbr e)) (g12.cell hSv2.2.2 (by intro e; injection e with e; exact hgbr e)))
                refine wpAnyH_ready (rs := [12]) (by kernel_rfl) (by simp) ?_
                refine AllReadyH.cons rfl (fun Kc hKc => ?_) AllReadyH.nil
                go_simp
                refine hKc.out _ _ hSv3 (fun hHeld => ?_)
                clear hKc Kc
                try simp only [Act.put, List.setIfInBounds_toArray, List.set_cons_zero, List.set_cons_succ]
                refine wpAnyH_done (by kernel_rfl) ?_ _
                have gB := GA.pushG (n := wL.heap.size) (x := ⟨(v : Int), (kd : Int), l⟩) (w1 := v2) gA ⟨by unfold I64; simp only []; omega, by simp only []; omega, by simp only []; omega⟩ (ints_of_own hl10 (fun y hy => by have := hx y hy; unfold I64; omega) (by omega)) (fun b e => hl10.lt b e) hn1L (fun b e => (hglt b e).2) (fun b e => (halt b e).2) (fun xs' h' => by rw [own_unique h' own1]; exact hO9) hG9 (fun b e => by cases e; exact hb9.imp id (fun e => Nat.le_of_eq e.symm))
                have gC := gB.keep g12.size (fun k h1 h2 => g12.block k h2 (by intro e; injection e with e; omega))
                have tC := gC.ats
                rw [HNA.out] at tC
                have hv3s : wL.heap.size ≤ (v2.setCell ⟨r, 1, none⟩ (.slice (some ⟨g9, 0, none⟩) (R.gates.length + 1) cap9)).heap.size := by have := g12.size; have := hG9.size; omega
                have hF12 : Fr2 n0 r q w (v2.setCell ⟨r, 1, none⟩ (.slice (some ⟨g9, 0, none⟩) (R.gates.length + 1) cap9)) := (((hF9.trans (Fr2.below (hBa.mono (by omega)))).grown (by omega) hG9 (fun k e => .inr (.inr (by have := (hglt k e).1; omega))))).grown (by have := hG9.size; omega) g12 (fun k e => by cases e; exact .inl rfl)
                have hPre12 : PreAt (v2.setCell ⟨r, 1, none⟩ (.slice (some ⟨g9, 0, none⟩) (R.gates.length + 1) cap9)) n0 n1 pv R.pre := hPre10.keep (fun k h1 h2 => (g12.block k (by have := hG9.size; omega) (by intro e; injection e with e; omega)).trans (hG9.block k (by omega) (fun e => by have := (hglt k e.symm).1; omega)))
                clear hHeld hSv1 hSv2 hSv3 k1 kf1
                generalize v2.setCell ⟨r, 1, none⟩ (.slice (some ⟨g9, 0, none⟩) (R.gates.length + 1) cap9) = v3 at *
                have k7 := cell_row A12.row (j := 7) (v := .slice Aa na ca) rfl
                have HX7 : Hid (∀ v5, v3.grownBy v5 (Value.slice Aa na ca).ownBlock → RwAt v5 r q pv (.slice (some ⟨g9, 0, none⟩) (R.gates.length + 1) cap9) (.slice Aa na ca) { R with seen := upd R.seen v true, lits := R.lits + l.length, gates := R.gates ++ [⟨(v : Int), (kd : Int), l⟩] } ∧ v5.cell? ⟨r, 7, none⟩ = some (.slice Aa na ca) ∧ v5.frozen? ⟨r, 7, none⟩ = false) := hid (fun v5 hG => by
                  have A13 := A12.grown hG (fun e => by have := (halt r e).1; omega) (fun e => by have := (halt q e).1; omega)
                  exact ⟨A13, cell_row A13.row (j := 7) rfl, frozen_of_row _ _ 7 _ _ A13.row⟩)
                have hn13 : n1 ≤ v3.heap.size := by omega
                have hb88 : (na + 1) * 8 ≤ 140737488355328 := by omega
                have HGC := hid gC
                have HPR := hid hPre12
                clear gA gB gC hGA9 hA9 hA10 A11 hl9 hl10 t29 t39 t40 own1 hPre9 hPre10 hPre12 c1
                go_wp2_with (first | (at_builtin; refine append_one n1 rfl _ _ 48 3 (.int .i64 0) 1 8 rfl Tryz.underlying48 info3 rfl (by decide) (by decide) (.slice Aa na ca) na (nums (natI (R.outAt :: R.at_))) #[.int .i64 (no : Int)] rfl rfl rfl (by intro u hu; simp at hu; subst hu; rfl) tC hn13 hb88 ?_; intro ga cap4 v5 hO5 hG5 hg5 hb5 hlt5; obtain ⟨A13, c7, f7⟩ := HX7.out v5 hG5) | fail)
                go_ret
                unfold AddPost
                rw [HP.out]
                have g14 : v5.grownBy (v5.setCell ⟨r, 7, none⟩ (.slice (some ⟨ga, 0, none⟩) (na + 1) cap4)) (some r) := grown_setCell v5 ⟨r, 7, none⟩ _
                have A14 : RwAt (v5.setCell ⟨r, 7, none⟩ (.slice (some ⟨ga, 0, none⟩) (na + 1) cap4)) r q pv (.slice (some ⟨g9, 0, none⟩) (R.gates.length + 1) cap9) (.slice (some ⟨ga, 0, none⟩) (na + 1) cap4) { R with seen := upd R.seen v true, lits := R.lits + l.length, gates := R.gates ++ [⟨(v : Int), (kd : Int), l⟩], at_ := R.at_ ++ [no] } := A13.put 7 _ rfl rfl
                have hk := HR.out.ok
                have gD := GA.pushA (w1 := v5) (av1 := .slice (some ⟨ga, 0, none⟩) (na + 1) cap4) no HGC.out (by rw [HNA.out]; exact hO5) hG5 (fun b e => by cases e; exact hg5)
                have h5s := hG5.size
                have h14s := g14.size
                refine ⟨rfl, (hF12.grown (by omega) hG5 (fun k e => .inr (.inr (by have := (halt k e).1; omega)))).grown (by omega) g14 (fun k e => by cases e; exact .inl rfl), fun _ => ⟨hrn, hqn, by omega, ⟨hk.vars, hk.nv, by have := HOV.out; simp only []; omega, hk.pre, Nat.le_succ_of_le hk.prel, ?_, ?_, ?_, hk.out⟩, _, _, _, A14, .inr ⟨HD.out, n1, hn01, by omega, ?_, ?_⟩⟩⟩
                · have := hk.gl; simp only [List.length_append, List.length_cons, List.length_nil]; omega
                · have := hk.al; simp only [List.length_append, List.length_cons, List.length_nil]; omega
                · intro g hg
                  rcases List.mem_append.1 hg with hg | hg
                  · exact hk.gs g hg
                  · rw [List.mem_singleton.1 hg]
                    exact ⟨⟨by simp only []; omega, by simp only []; omega⟩, ⟨by simp only []; omega, by simp only []; omega⟩, hx⟩
                · exact HPR.out.keep (fun k h1 h2 => (g14.block k (by omega) (by intro e; injection e with e; omega)).trans (hG5.block k (by omega) (fun e => by have := (halt k e.symm).1; omega)))
                · exact gD.keep g14.size (fun k h1 h2 => g14.block k h2 (by intro e; injection e with e; omega))
end Go.Proofs.YtnlobmepajakcaaGreatDoor
