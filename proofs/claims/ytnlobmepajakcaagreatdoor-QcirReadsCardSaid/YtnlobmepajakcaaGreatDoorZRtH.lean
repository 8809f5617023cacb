/- What add of the document's reader does with a free or block line; the condition: texts have at most 2^22 bytes. -/
import Derived.Test.YtnlobmepajakcaaGreatDoorZRtG
set_option linter.unusedVariables false
set_option linter.unusedSimpArgs false
namespace Go.Proofs.YtnlobmepajakcaaGreatDoor
open Go.RowKit Go.Shelf
attribute [local go_sem] Oper.semAt_some

set_option maxRecDepth 100000 in
set_option maxHeartbeats 4000000 in
theorem addBlock1_any (n0 r q no : Nat) (R : RS) (l : List Int) (A : Option Addr) (c : Nat) (wL w : World) (hR : RdrR wL n0 r q R no) (hB : Below wL.heap.size wL w) (hl : w.ownsRow wL.heap.size 3 1 (.slice A l.length c) l.length (nums l)) (hx : ∀ x ∈ l, 0 ≤ x ∧ x ≤ 65536) (hll : l.length ≤ 4194306) (hno : no ≤ 4194305) :
    Calls Tryz.prog 66 #[.pointer (some ⟨r, 0, none⟩), .agg #[.string ⟨#[102, 114, 101, 101]⟩, .slice A l.length c, .int .i64 0], .int .i64 (no : Int)] w (AddPost n0 r q no R (.block 1 l) w) := by
  obtain ⟨pv, gv, av, hA, hph⟩ := hR.mem
  obtain ⟨w1, hw1, -, -, hz1, hB1, q1⟩ := new_block w #[.string ⟨#[102, 114, 101, 101]⟩, .slice A l.length c, .int .i64 0] 113
  have z0 := cell_row q1 (j := 0) (v := .string ⟨#[102, 114, 101, 101]⟩) rfl
  have z1 := cell_row q1 (j := 1) (v := .slice A l.length c) rfl
  have z2 := cell_row q1 (j := 2) (v := .int .i64 0) rfl
  have hBL1 := below_then hB hB.size hB1
  have hA1 := hA.below hBL1
  have hl1 := hl.kept (grown_of_below hB1 none) (by cases (Value.slice A l.length c).ownBlock <;> simp)
  have c6 := cell_row hA1.row (j := 6) (v := .int .i64 (stg R)) rfl
  have f6 := frozen_of_row _ _ 6 _ _ hA1.row
  have hsz := hR.size
  have hsz2 := hB.size
  have hn1 : n0 ≤ w1.heap.size := by omega
  have hF1 : Fr2 n0 r q w w1 := Fr2.below (hB1.mono (by omega))
  have hrn := hR.rn
  have hqn := hR.qn
  have hzr : w.heap.size ≠ r := by omega
  have hzq : w.heap.size ≠ q := by omega
  cases hd : R.done with
  | true =>
    have hst : stg R = 2 := by unfold stg; rw [if_pos hd]
    have HP := hid (show addL R no (.block 1 l) = (5, R) by unfold addL; simp only []; rw [if_pos (by simp [hd])])
    rw [hst] at c6
    clear hst hd
    go_enter Tryz.func66, Tryz.ntmps66
    go_wp2_with fail
    go_ret
    unfold AddPost
    rw [HP.out]
    exact ⟨rfl, hF1, fun h => absurd h (by simp)⟩
  | false =>
    cases hbg : R.begun with
    | true =>
      have hst : stg R = 1 := by unfold stg; rw [if_neg (by rw [hd]; simp), if_pos hbg]
      have HP := hid (show addL R no (.block 1 l) = (5, R) by unfold addL; simp only []; rw [if_pos (by simp [hbg])])
      rw [hst] at c6
      clear hst hd
      go_enter Tryz.func66, Tryz.ntmps66
      go_wp2_with fail
      go_ret
      unfold AddPost
      rw [HP.out]
      exact ⟨rfl, hF1, fun h => absurd h (by simp)⟩
    | false =>
      have HNB : Hid (¬ (R.done = true ∨ 1 = 1 ∧ R.begun = true)) := hid (by rw [hd, hbg]; simp)
      have hst2 : (stg R == 2) = false := by unfold stg; rw [if_neg (by rw [hd]; simp)]; split <;> decide
      have HSG : (stg R == 1) = false := by unfold stg; rw [if_neg (by rw [hd]; simp), if_neg (by rw [hbg]; simp)]; rfl
      have hA2 : RwAt (w1.setCell ⟨r, 6, none⟩ (.int .i64 1)) r q pv gv av { R with begun := true } := hA1.put 6 _ rfl (by simp [stg, hd])
      have g2 : w1.grownBy (w1.setCell ⟨r, 6, none⟩ (.int .i64 1)) (some r) := grown_setCell w1 ⟨r, 6, none⟩ _
      have HD := hid hd
      have HST := hid hst2
      generalize hsg : stg R = sg at c6 hst2 HSG
      go_enter Tryz.func66, Tryz.ntmps66
      go_wp2_with fail
      have hl2 := hl1.kept g2 (by right; intro e; have := (hl1.lt r e).1; omega)
      have y0 := g2.cell z0 (by intro e; injection e with e; exact hzr e)
      have y1 := g2.cell z1 (by intro e; injection e with e; exact hzr e)
      have hF2 := hF1.grown hn1 g2 (fun k e => by cases e; exact .inl rfl)
      have hs2 : n0 ≤ (w1.setCell ⟨r, 6, none⟩ (.int .i64 1)).heap.size := by have := g2.size; omega
      have hz2 : w.heap.size < (w1.setCell ⟨r, 6, none⟩ (.int .i64 1)).heap.size := by have := g2.size; omega
      have hK2 : ∀ k, n0 ≤ k → k < wL.heap.size → (w1.setCell ⟨r, 6, none⟩ (.int .i64 1)).heap[k]? = wL.heap[k]? := fun k h1 h2 => (g2.block k (by have := hBL1.size; omega) (by intro e; injection e with e; omega)).trans (hBL1.block k h2)
      generalize w1.setCell ⟨r, 6, none⟩ (.int .i64 1) = w2 at *
      clear c6 f6 z0 z1 z2 hst2 hA1 hl1 hl hA
      have hqw : q < w2.heap.size := hA2.seen.lt
      go_loopg [9] l.length (fun gg s9 wr => ∃ (j : Nat) (S : Nat → Bool), j ≤ l.length ∧ l.length - j ≤ gg ∧ s9 = .int .i64 (j : Int) ∧ Hid (declP R.seen (l.take j) = some S) ∧ RwAt wr r q pv gv av { R with begun := true, seen := S } ∧ w2.grownBy wr (some q))
      case atStart => exact ⟨0, R.seen, Nat.zero_le _, by omega, rfl, hid (by simp [declP]), hA2, World.grownBy.refl _ _⟩
      case round =>
        obtain ⟨j, S, hj, hgk, rfl, hdS, hAr, gr⟩ := hrel
        have x1 := gr.cell y1 (by intro e; injection e with e; exact hzq e)
        have c3 := cell_row hAr.row (j := 3) (v := .slice (some ⟨q, 0, none⟩) 65537 65537) rfl
        by_cases hlt : j < l.length
        · have hltz : (j : Int) < (l.length : Int) := by omega
          obtain ⟨x, hxj, hxm, -⟩ := nth hlt
          have hxb := hx x hxm
          obtain ⟨xn, rfl⟩ : ∃ k : Nat, x = (k : Int) := ⟨x.toNat, by omega⟩
          obtain ⟨g, cap, hAc, hg1, hg2, hg3⟩ := own_form hl2 (by omega)
          injection hAc with e1 e2 e3
          subst e1; subst e3
          have hlr := hl2.kept gr (by right; intro e; have := (hl2.lt q e).1; omega)
          have cx : wr.cell? ⟨g, j, none⟩ = some (.int .i64 (xn : Int)) := (hlr.cellAt j (by omega)).trans (nums_get hxj)
          have hxn : xn < 65537 := by omega
          have cs := hAr.seen.cell xn hxn
          simp only [] at cs
          have HX := hid hxj
          clear hxj hxm hxb
          cases hS : S xn with
          | true =>
            rw [hS] at cs
            have HP := hid (show addL R no (.block 1 l) = (7, R) by
              unfold addL; simp only []
              rw [if_neg HNB.out, declP_bad l R.seen S j _ hdS.out HX.out (by rw [Int.toNat_natCast]; exact hS)])
            clear hS
            go_wp2_with fail
            go_quiet (fail)
            go_wp2_with fail
            go_ret
            unfold AddPost
            rw [HP.out]
            exact ⟨rfl, (hF2.grown hs2 gr (fun k e => by cases e; exact .inr (.inl rfl))).trans (Fr2.below (below_drewN (Below.refl _ _) _)), fun h => absurd h (by simp)⟩
          | false =>
            rw [hS] at cs
            have HN := hid (declP_next l R.seen S j _ hdS.out HX.out (by rw [Int.toNat_natCast]; exact hS))
            clear hS
            go_wp2_with fail
            go_quiet (fail)
            go_wp2_with fail
            have hAd : RwAt (wr.drewN nq) r q pv gv av { R with begun := true, seen := S } := hAr.heap rfl rfl
            have gd : w2.grownBy (wr.drewN nq) (some q) := ⟨gr.os, gr.tape, gr.output, gr.size, gr.block⟩
            have xd : (wr.drewN nq).cell? ⟨w.heap.size, 1, none⟩ = some (.slice (some ⟨g, 0, none⟩) l.length c) := x1
            have cd3 : (wr.drewN nq).cell? ⟨r, 3, none⟩ = some (.slice (some ⟨q, 0, none⟩) 65537 65537) := c3
            have cdx : (wr.drewN nq).cell? ⟨g, j, none⟩ = some (.int .i64 (xn : Int)) := cx
            clear cs cx x1 c3
            generalize wr.drewN nq = wq at *
            have l1 := fun p => cell_since xd p
            have l2 := fun p => cell_since cd3 p
            have l3 := fun p => cell_since cdx p
            refine region_tail 10 (by kernel_rfl) (by kernel_rfl) ?_
            simp only [List.take_succ_cons, List.take_zero, List.drop_succ_cons, List.drop_zero]
            repeat (first | go_big_quiet_step (fail) | quiet_step (fail))
            refine wpQuiet_nil ?_
            rintro W ⟨pw, hW⟩
            have hBW : Below wq.heap.size wq W := by rw [hW]; exact since_below wq pw
            have hAW := hAd.below hBW
            have csW := hAW.seen.cell xn hxn
            have cfW := hAW.seen.free xn
            have gW := gd.trans (grown_of_below hBW (some q))
            have hA9 : RwAt (W.setCell ⟨q, xn, none⟩ (.bool true)) r q pv gv av { R with begun := true, seen := upd S xn true } :=
              ⟨(heap_setCell_other W ⟨q, xn, none⟩ r _ hAW.ne).trans hAW.row, hAW.seen.store xn true, hAW.ne⟩
            clear l1 l2 l3 hW xd cd3 cdx
            go_wp2_with fail
            go_roundg (l.length - (j + 1))
            case measure => omega
            case rel => exact ⟨j + 1, _, by omega, by omega, by go_num, HN, hA9, gW.trans (grown_setCell W ⟨q, xn, none⟩ _)⟩
        · have hltz : ¬ (j : Int) < (l.length : Int) := by omega
          have hdL : declP R.seen l = some S := by have := hdS.out; rwa [List.take_of_length_le (by omega)] at this
          have HDL := hid hdL
          have hvv : R.vars ≤ 1024 := hR.ok.vars
          have x0 := gr.cell y0 (by intro e; injection e with e; exact hzq e)
          have c4 := cell_row hAr.row (j := 4) (v := .int .i64 (R.vars : Int)) rfl
          have hwv : IntKind.i64.wrap ((R.vars : Int) + (l.length : Int)) = (R.vars : Int) + (l.length : Int) := IntWalk.i64_in _ (by omega)
          clear hdL hdS hlt c3
          go_wp2_with fail
          have l1 := fun p => cell_since x1 p
          have l2 := fun p => cell_since c4 p
          refine region_tail 11 (by kernel_rfl) (by kernel_rfl) ?_
          simp only [List.take_succ_cons, List.take_zero, List.drop_succ_cons, List.drop_zero]
          repeat (first | go_big_quiet_step (fail) | quiet_step (fail))
          refine wpQuiet_nil ?_
          rintro W ⟨pw, hW⟩
          have hBW : Below wr.heap.size wr W := by rw [hW]; exact since_below wr pw
          have hAW := hAr.below hBW
          have cW := cell_row hAW.row (j := 4) (v := .int .i64 (R.vars : Int)) rfl
          have fW := frozen_of_row _ _ 4 _ _ hAW.row
          have gW := gr.trans (grown_of_below hBW (some q))
          have hA8 : RwAt (W.setCell ⟨r, 4, none⟩ (.int .i64 ((R.vars : Int) + (l.length : Int)))) r q pv gv av { R with begun := true, seen := S, vars := R.vars + l.length } := hAW.put 4 _ rfl (by simp [stg])
          have g8 : W.grownBy (W.setCell ⟨r, 4, none⟩ (.int .i64 ((R.vars : Int) + (l.length : Int)))) (some r) := grown_setCell W ⟨r, 4, none⟩ _
          obtain ⟨w8, hw8⟩ : ∃ w8, W.setCell ⟨r, 4, none⟩ (.int .i64 ((R.vars : Int) + (l.length : Int))) = w8 := ⟨_, rfl⟩
          rw [hw8] at hA8 g8
          have hWs := gW.size
          have h8s := g8.size
          have u0 := g8.cell (keeps_below hBW _ _ x0) (by intro e; injection e with e; exact hzr e)
          have u1 := g8.cell (keeps_below hBW _ _ x1) (by intro e; injection e with e; exact hzr e)
          have u4 := cell_row hA8.row (j := 4) (v := .int .i64 (((R.vars + l.length : Nat)) : Int)) rfl
          rw [Int.natCast_add] at u4
          have hF8 := (hF2.grown hs2 gW (fun k e => by cases e; exact .inr (.inl rfl))).grown (by omega) g8 (fun k e => by cases e; exact .inl rfl)
          clear l1 l2 hW x0 x1 c4
          by_cases hov : 1024 < R.vars + l.length
          · have HP := hid (show addL R no (.block 1 l) = (3, R) by
              unfold addL; simp only []
              rw [if_neg HNB.out, HDL.out]
              simp only []
              rw [if_pos hov])
            have hov2 : (1024 : Int) < (R.vars : Int) + (l.length : Int) := by omega
            clear hov
            go_wp2_with fail
            go_ret
            unfold AddPost
            rw [HP.out]
            exact ⟨rfl, hF8, fun h => absurd h (by simp)⟩
          · have HP := hid (show addL R no (.block 1 l) = (0, { R with seen := S, vars := R.vars + l.length, begun := true, pre := addBlock R.pre true l }) by
              unfold addL; simp only []
              rw [if_neg HNB.out, HDL.out]
              simp only []
              rw [if_neg hov]
              rfl)
            have hov2 : decide ((1024 : Int) < (R.vars : Int) + (l.length : Int)) = false := decide_eq_false (by omega)
            have HOV := hid hov
            clear hov
            rcases hph with ⟨-, rfl, rfl, hg0, ha0, hOut⟩ | ⟨h0, _⟩
            · have hpb := hR.ok.pre
              have hl8 := ((hl2.kept gW (by right; intro e; have := (hl2.lt q e).1; omega)).kept g8 (by right; intro e; have := (hl2.lt r e).1; omega))
              have CB := blockR_any n0 r q pv _ _ _ true l A c wL w8 hA8 hrn hqn hsz (by have := hBL1.size; omega) hOut (fun k h1 h2 => (g8.block k (by have := hBL1.size; omega) (by intro e; injection e with e; omega)).trans ((gW.block k (by have := hBL1.size; omega) (by intro e; injection e with e; omega)).trans (hK2 k h1 h2))) hl8
                (by have := hR.ok.prel; simp only []; omega) (by have := hR.ok.nv; simp only []; omega) hll (fun x hx y hy => by have := hpb x hx y hy; exact ⟨by omega, by omega⟩)
              clear u4
              have u4 := cell_row hA8.row (j := 4) (v := .int .i64 (((R.vars + l.length : Nat)) : Int)) rfl
              rw [Int.natCast_add] at u4
              go_wp2_with fail
              refine CB.mono ?_
              rintro e w9 ⟨rfl, hF9, pv', hA9, hO9⟩
              go_wp2_with fail
              go_ret
              unfold AddPost
              rw [HP.out]
              have hk := hR.ok
              refine ⟨rfl, hF8.trans (Fr2.fr hF9), fun _ => ⟨hrn, hqn, by have := hF9.size; omega, ⟨?_, ?_, hk.lits, mem_add hk.pre (fun y hy => hx y hy), ?_, Nat.le_succ_of_le hk.gl, hk.al, hk.gs, hk.out⟩, _, _, _, hA9, .inl ⟨HD.out, rfl, rfl, hg0, ha0, hO9⟩⟩⟩
              · have := HOV.out; simp only []; omega
              · simp only [varsOf_add]; rw [hk.nv]
              · have := len_add R.pre true l; have := hk.prel; simp only []; omega
            · rw [HD.out] at h0; cases h0
set_option maxRecDepth 100000 in
set_option maxHeartbeats 4000000 in
theorem addBlock2_any (n0 r q no : Nat) (R : RS) (l : List Int) (A : Option Addr) (c : Nat) (wL w : World) (hR : RdrR wL n0 r q R no) (hB : Below wL.heap.size wL w) (hl : w.ownsRow wL.heap.size 3 1 (.slice A l.length c) l.length (nums l)) (hx : ∀ x ∈ l, 0 ≤ x ∧ x ≤ 65536) (hll : l.length ≤ 4194306) (hno : no ≤ 4194305) :
    Calls Tryz.prog 66 #[.pointer (some ⟨r, 0, none⟩), .agg #[.string ⟨#[101, 120, 105, 115, 116, 115]⟩, .slice A l.length c, .int .i64 0], .int .i64 (no : Int)] w (AddPost n0 r q no R (.block 2 l) w) := by
  obtain ⟨pv, gv, av, hA, hph⟩ := hR.mem
  obtain ⟨w1, hw1, -, -, hz1, hB1, q1⟩ := new_block w #[.string ⟨#[101, 120, 105, 115, 116, 115]⟩, .slice A l.length c, .int .i64 0] 113
  have z0 := cell_row q1 (j := 0) (v := .string ⟨#[101, 120, 105, 115, 116, 115]⟩) rfl
  have z1 := cell_row q1 (j := 1) (v := .slice A l.length c) rfl
  have z2 := cell_row q1 (j := 2) (v := .int .i64 0) rfl
  have hBL1 := below_then hB hB.size hB1
  have hA1 := hA.below hBL1
  have hl1 := hl.kept (grown_of_below hB1 none) (by cases (Value.slice A l.length c).ownBlock <;> simp)
  have c6 := cell_row hA1.row (j := 6) (v := .int .i64 (stg R)) rfl
  have f6 := frozen_of_row _ _ 6 _ _ hA1.row
  have hsz := hR.size
  have hsz2 := hB.size
  have hn1 : n0 ≤ w1.heap.size := by omega
  have hF1 : Fr2 n0 r q w w1 := Fr2.below (hB1.mono (by omega))
  have hrn := hR.rn
  have hqn := hR.qn
  have hzr : w.heap.size ≠ r := by omega
  have hzq : w.heap.size ≠ q := by omega
  cases hd : R.done with
  | true =>
    have hst : stg R = 2 := by unfold stg; rw [if_pos hd]
    have HP := hid (show addL R no (.block 2 l) = (5, R) by unfold addL; simp only []; rw [if_pos (by simp [hd])])
    rw [hst] at c6
    clear hst hd
    go_enter Tryz.func66, Tryz.ntmps66
    go_wp2_with fail
    go_ret
    unfold AddPost
    rw [HP.out]
    exact ⟨rfl, hF1, fun h => absurd h (by simp)⟩
  | false =>
    have HNB : Hid (¬ (R.done = true ∨ 2 = 1 ∧ R.begun = true)) := hid (by rw [hd]; simp)
    rcases (show (stg R == 1) = true ∨ (stg R == 1) = false by cases (stg R == 1) <;> simp) with HSG | HSG
    · skip
      have hst2 : (stg R == 2) = false := by unfold stg; rw [if_neg (by rw [hd]; simp)]; split <;> decide
      have hA2 : RwAt (w1.setCell ⟨r, 6, none⟩ (.int .i64 1)) r q pv gv av { R with begun := true } := hA1.put 6 _ rfl (by simp [stg, hd])
      have g2 : w1.grownBy (w1.setCell ⟨r, 6, none⟩ (.int .i64 1)) (some r) := grown_setCell w1 ⟨r, 6, none⟩ _
      have HD := hid hd
      have HST := hid hst2
      generalize hsg : stg R = sg at c6 hst2 HSG
      go_enter Tryz.func66, Tryz.ntmps66
      go_wp2_with fail
      have hl2 := hl1.kept g2 (by right; intro e; have := (hl1.lt r e).1; omega)
      have y0 := g2.cell z0 (by intro e; injection e with e; exact hzr e)
      have y1 := g2.cell z1 (by intro e; injection e with e; exact hzr e)
      have hF2 := hF1.grown hn1 g2 (fun k e => by cases e; exact .inl rfl)
      have hs2 : n0 ≤ (w1.setCell ⟨r, 6, none⟩ (.int .i64 1)).heap.size := by have := g2.size; omega
      have hz2 : w.heap.size < (w1.setCell ⟨r, 6, none⟩ (.int .i64 1)).heap.size := by have := g2.size; omega
      have hK2 : ∀ k, n0 ≤ k → k < wL.heap.size → (w1.setCell ⟨r, 6, none⟩ (.int .i64 1)).heap[k]? = wL.heap[k]? := fun k h1 h2 => (g2.block k (by have := hBL1.size; omega) (by intro e; injection e with e; omega)).trans (hBL1.block k h2)
      generalize w1.setCell ⟨r, 6, none⟩ (.int .i64 1) = w2 at *
      clear c6 f6 z0 z1 z2 hst2 hA1 hl1 hl hA
      have hqw : q < w2.heap.size := hA2.seen.lt
      go_loopg [9] l.length (fun gg s9 wr => ∃ (j : Nat) (S : Nat → Bool), j ≤ l.length ∧ l.length - j ≤ gg ∧ s9 = .int .i64 (j : Int) ∧ Hid (declP R.seen (l.take j) = some S) ∧ RwAt wr r q pv gv av { R with begun := true, seen := S } ∧ w2.grownBy wr (some q))
      case atStart => exact ⟨0, R.seen, Nat.zero_le _, by omega, rfl, hid (by simp [declP]), hA2, World.grownBy.refl _ _⟩
      case round =>
        obtain ⟨j, S, hj, hgk, rfl, hdS, hAr, gr⟩ := hrel
        have x1 := gr.cell y1 (by intro e; injection e with e; exact hzq e)
        have c3 := cell_row hAr.row (j := 3) (v := .slice (some ⟨q, 0, none⟩) 65537 65537) rfl
        by_cases hlt : j < l.length
        · have hltz : (j : Int) < (l.length : Int) := by omega
          obtain ⟨x, hxj, hxm, -⟩ := nth hlt
          have hxb := hx x hxm
          obtain ⟨xn, rfl⟩ : ∃ k : Nat, x = (k : Int) := ⟨x.toNat, by omega⟩
          obtain ⟨g, cap, hAc, hg1, hg2, hg3⟩ := own_form hl2 (by omega)
          injection hAc with e1 e2 e3
          subst e1; subst e3
          have hlr := hl2.kept gr (by right; intro e; have := (hl2.lt q e).1; omega)
          have cx : wr.cell? ⟨g, j, none⟩ = some (.int .i64 (xn : Int)) := (hlr.cellAt j (by omega)).trans (nums_get hxj)
          have hxn : xn < 65537 := by omega
          have cs := hAr.seen.cell xn hxn
          simp only [] at cs
          have HX := hid hxj
          clear hxj hxm hxb
          cases hS : S xn with
          | true =>
            rw [hS] at cs
            have HP := hid (show addL R no (.block 2 l) = (7, R) by
              unfold addL; simp only []
              rw [if_neg HNB.out, declP_bad l R.seen S j _ hdS.out HX.out (by rw [Int.toNat_natCast]; exact hS)])
            clear hS
            go_wp2_with fail
            go_quiet (fail)
            go_wp2_with fail
            go_ret
            unfold AddPost
            rw [HP.out]
            exact ⟨rfl, (hF2.grown hs2 gr (fun k e => by cases e; exact .inr (.inl rfl))).trans (Fr2.below (below_drewN (Below.refl _ _) _)), fun h => absurd h (by simp)⟩
          | false =>
            rw [hS] at cs
            have HN := hid (declP_next l R.seen S j _ hdS.out HX.out (by rw [Int.toNat_natCast]; exact hS))
            clear hS
            go_wp2_with fail
            go_quiet (fail)
            go_wp2_with fail
            have hAd : RwAt (wr.drewN nq) r q pv gv av { R with begun := true, seen := S } := hAr.heap rfl rfl
            have gd : w2.grownBy (wr.drewN nq) (some q) := ⟨gr.os, gr.tape, gr.output, gr.size, gr.block⟩
            have xd : (wr.drewN nq).cell? ⟨w.heap.size, 1, none⟩ = some (.slice (some ⟨g, 0, none⟩) l.length c) := x1
            have cd3 : (wr.drewN nq).cell? ⟨r, 3, none⟩ = some (.slice (some ⟨q, 0, none⟩) 65537 65537) := c3
            have cdx : (wr.drewN nq).cell? ⟨g, j, none⟩ = some (.int .i64 (xn : Int)) := cx
            clear cs cx x1 c3
            generalize wr.drewN nq = wq at *
            have l1 := fun p => cell_since xd p
            have l2 := fun p => cell_since cd3 p
            have l3 := fun p => cell_since cdx p
            refine region_tail 10 (by kernel_rfl) (by kernel_rfl) ?_
            simp only [List.take_succ_cons, List.take_zero, List.drop_succ_cons, List.drop_zero]
            repeat (first | go_big_quiet_step (fail) | quiet_step (fail))
            refine wpQuiet_nil ?_
            rintro W ⟨pw, hW⟩
            have hBW : Below wq.heap.size wq W := by rw [hW]; exact since_below wq pw
            have hAW := hAd.below hBW
            have csW := hAW.seen.cell xn hxn
            have cfW := hAW.seen.free xn
            have gW := gd.trans (grown_of_below hBW (some q))
            have hA9 : RwAt (W.setCell ⟨q, xn, none⟩ (.bool true)) r q pv gv av { R with begun := true, seen := upd S xn true } :=
              ⟨(heap_setCell_other W ⟨q, xn, none⟩ r _ hAW.ne).trans hAW.row, hAW.seen.store xn true, hAW.ne⟩
            clear l1 l2 l3 hW xd cd3 cdx
            go_wp2_with fail
            go_roundg (l.length - (j + 1))
            case measure => omega
            case rel => exact ⟨j + 1, _, by omega, by omega, by go_num, HN, hA9, gW.trans (grown_setCell W ⟨q, xn, none⟩ _)⟩
        · have hltz : ¬ (j : Int) < (l.length : Int) := by omega
          have hdL : declP R.seen l = some S := by have := hdS.out; rwa [List.take_of_length_le (by omega)] at this
          have HDL := hid hdL
          have hvv : R.vars ≤ 1024 := hR.ok.vars
          have x0 := gr.cell y0 (by intro e; injection e with e; exact hzq e)
          have c4 := cell_row hAr.row (j := 4) (v := .int .i64 (R.vars : Int)) rfl
          have hwv : IntKind.i64.wrap ((R.vars : Int) + (l.length : Int)) = (R.vars : Int) + (l.length : Int) := IntWalk.i64_in _ (by omega)
          clear hdL hdS hlt c3
          go_wp2_with fail
          have l1 := fun p => cell_since x1 p
          have l2 := fun p => cell_since c4 p
          refine region_tail 11 (by kernel_rfl) (by kernel_rfl) ?_
          simp only [List.take_succ_cons, List.take_zero, List.drop_succ_cons, List.drop_zero]
          repeat (first | go_big_quiet_step (fail) | quiet_step (fail))
          refine wpQuiet_nil ?_
          rintro W ⟨pw, hW⟩
          have hBW : Below wr.heap.size wr W := by rw [hW]; exact since_below wr pw
          have hAW := hAr.below hBW
          have cW := cell_row hAW.row (j := 4) (v := .int .i64 (R.vars : Int)) rfl
          have fW := frozen_of_row _ _ 4 _ _ hAW.row
          have gW := gr.trans (grown_of_below hBW (some q))
          have hA8 : RwAt (W.setCell ⟨r, 4, none⟩ (.int .i64 ((R.vars : Int) + (l.length : Int)))) r q pv gv av { R with begun := true, seen := S, vars := R.vars + l.length } := hAW.put 4 _ rfl (by simp [stg])
          have g8 : W.grownBy (W.setCell ⟨r, 4, none⟩ (.int .i64 ((R.vars : Int) + (l.length : Int)))) (some r) := grown_setCell W ⟨r, 4, none⟩ _
          obtain ⟨w8, hw8⟩ : ∃ w8, W.setCell ⟨r, 4, none⟩ (.int .i64 ((R.vars : Int) + (l.length : Int))) = w8 := ⟨_, rfl⟩
          rw [hw8] at hA8 g8
          have hWs := gW.size
          have h8s := g8.size
          have u0 := g8.cell (keeps_below hBW _ _ x0) (by intro e; injection e with e; exact hzr e)
          have u1 := g8.cell (keeps_below hBW _ _ x1) (by intro e; injection e with e; exact hzr e)
          have u4 := cell_row hA8.row (j := 4) (v := .int .i64 (((R.vars + l.length : Nat)) : Int)) rfl
          rw [Int.natCast_add] at u4
          have hF8 := (hF2.grown hs2 gW (fun k e => by cases e; exact .inr (.inl rfl))).grown (by omega) g8 (fun k e => by cases e; exact .inl rfl)
          clear l1 l2 hW x0 x1 c4
          by_cases hov : 1024 < R.vars + l.length
          · have HP := hid (show addL R no (.block 2 l) = (3, R) by
              unfold addL; simp only []
              rw [if_neg HNB.out, HDL.out]
              simp only []
              rw [if_pos hov])
            have hov2 : (1024 : Int) < (R.vars : Int) + (l.length : Int) := by omega
            clear hov
            go_wp2_with fail
            go_ret
            unfold AddPost
            rw [HP.out]
            exact ⟨rfl, hF8, fun h => absurd h (by simp)⟩
          · have HP := hid (show addL R no (.block 2 l) = (0, { R with seen := S, vars := R.vars + l.length, begun := true, pre := addBlock R.pre true l }) by
              unfold addL; simp only []
              rw [if_neg HNB.out, HDL.out]
              simp only []
              rw [if_neg hov]
              rfl)
            have hov2 : decide ((1024 : Int) < (R.vars : Int) + (l.length : Int)) = false := decide_eq_false (by omega)
            have HOV := hid hov
            clear hov
            rcases hph with ⟨-, rfl, rfl, hg0, ha0, hOut⟩ | ⟨h0, _⟩
            · have hpb := hR.ok.pre
              have hl8 := ((hl2.kept gW (by right; intro e; have := (hl2.lt q e).1; omega)).kept g8 (by right; intro e; have := (hl2.lt r e).1; omega))
              have CB := blockR_any n0 r q pv _ _ _ true l A c wL w8 hA8 hrn hqn hsz (by have := hBL1.size; omega) hOut (fun k h1 h2 => (g8.block k (by have := hBL1.size; omega) (by intro e; injection e with e; omega)).trans ((gW.block k (by have := hBL1.size; omega) (by intro e; injection e with e; omega)).trans (hK2 k h1 h2))) hl8
                (by have := hR.ok.prel; simp only []; omega) (by have := hR.ok.nv; simp only []; omega) hll (fun x hx y hy => by have := hpb x hx y hy; exact ⟨by omega, by omega⟩)
              clear u4
              have u4 := cell_row hA8.row (j := 4) (v := .int .i64 (((R.vars + l.length : Nat)) : Int)) rfl
              rw [Int.natCast_add] at u4
              go_wp2_with fail
              refine CB.mono ?_
              rintro e w9 ⟨rfl, hF9, pv', hA9, hO9⟩
              go_wp2_with fail
              go_ret
              unfold AddPost
              rw [HP.out]
              have hk := hR.ok
              refine ⟨rfl, hF8.trans (Fr2.fr hF9), fun _ => ⟨hrn, hqn, by have := hF9.size; omega, ⟨?_, ?_, hk.lits, mem_add hk.pre (fun y hy => hx y hy), ?_, Nat.le_succ_of_le hk.gl, hk.al, hk.gs, hk.out⟩, _, _, _, hA9, .inl ⟨HD.out, rfl, rfl, hg0, ha0, hO9⟩⟩⟩
              · have := HOV.out; simp only []; omega
              · simp only [varsOf_add]; rw [hk.nv]
              · have := len_add R.pre true l; have := hk.prel; simp only []; omega
            · rw [HD.out] at h0; cases h0
    · skip
      have hst2 : (stg R == 2) = false := by unfold stg; rw [if_neg (by rw [hd]; simp)]; split <;> decide
      have hA2 : RwAt (w1.setCell ⟨r, 6, none⟩ (.int .i64 1)) r q pv gv av { R with begun := true } := hA1.put 6 _ rfl (by simp [stg, hd])
      have g2 : w1.grownBy (w1.setCell ⟨r, 6, none⟩ (.int .i64 1)) (some r) := grown_setCell w1 ⟨r, 6, none⟩ _
      have HD := hid hd
      have HST := hid hst2
      generalize hsg : stg R = sg at c6 hst2 HSG
      go_enter Tryz.func66, Tryz.ntmps66
      go_wp2_with fail
      have hl2 := hl1.kept g2 (by right; intro e; have := (hl1.lt r e).1; omega)
      have y0 := g2.cell z0 (by intro e; injection e with e; exact hzr e)
      have y1 := g2.cell z1 (by intro e; injection e with e; exact hzr e)
      have hF2 := hF1.grown hn1 g2 (fun k e => by cases e; exact .inl rfl)
      have hs2 : n0 ≤ (w1.setCell ⟨r, 6, none⟩ (.int .i64 1)).heap.size := by have := g2.size; omega
      have hz2 : w.heap.size < (w1.setCell ⟨r, 6, none⟩ (.int .i64 1)).heap.size := by have := g2.size; omega
      have hK2 : ∀ k, n0 ≤ k → k < wL.heap.size → (w1.setCell ⟨r, 6, none⟩ (.int .i64 1)).heap[k]? = wL.heap[k]? := fun k h1 h2 => (g2.block k (by have := hBL1.size; omega) (by intro e; injection e with e; omega)).trans (hBL1.block k h2)
      generalize w1.setCell ⟨r, 6, none⟩ (.int .i64 1) = w2 at *
      clear c6 f6 z0 z1 z2 hst2 hA1 hl1 hl hA
      have hqw : q < w2.heap.size := hA2.seen.lt
      go_loopg [9] l.length (fun gg s9 wr => ∃ (j : Nat) (S : Nat → Bool), j ≤ l.length ∧ l.length - j ≤ gg ∧ s9 = .int .i64 (j : Int) ∧ Hid (declP R.seen (l.take j) = some S) ∧ RwAt wr r q pv gv av { R with begun := true, seen := S } ∧ w2.grownBy wr (some q))
      case atStart => exact ⟨0, R.seen, Nat.zero_le _, by omega, rfl, hid (by simp [declP]), hA2, World.grownBy.refl _ _⟩
      case round =>
        obtain ⟨j, S, hj, hgk, rfl, hdS, hAr, gr⟩ := hrel
        have x1 := gr.cell y1 (by intro e; injection e with e; exact hzq e)
        have c3 := cell_row hAr.row (j := 3) (v := .slice (some ⟨q, 0, none⟩) 65537 65537) rfl
        by_cases hlt : j < l.length
        · have hltz : (j : Int) < (l.length : Int) := by omega
          obtain ⟨x, hxj, hxm, -⟩ := nth hlt
          have hxb := hx x hxm
          obtain ⟨xn, rfl⟩ : ∃ k : Nat, x = (k : Int) := ⟨x.toNat, by omega⟩
          obtain ⟨g, cap, hAc, hg1, hg2, hg3⟩ := own_form hl2 (by omega)
          injection hAc with e1 e2 e3
          subst e1; subst e3
          have hlr := hl2.kept gr (by right; intro e; have := (hl2.lt q e).1; omega)
          have cx : wr.cell? ⟨g, j, none⟩ = some (.int .i64 (xn : Int)) := (hlr.cellAt j (by omega)).trans (nums_get hxj)
          have hxn : xn < 65537 := by omega
          have cs := hAr.seen.cell xn hxn
          simp only [] at cs
          have HX := hid hxj
          clear hxj hxm hxb
          cases hS : S xn with
          | true =>
            rw [hS] at cs
            have HP := hid (show addL R no (.block 2 l) = (7, R) by
              unfold addL; simp only []
              rw [if_neg HNB.out, declP_bad l R.seen S j _ hdS.out HX.out (by rw [Int.toNat_natCast]; exact hS)])
            clear hS
            go_wp2_with fail
            go_quiet (fail)
            go_wp2_with fail
            go_ret
            unfold AddPost
            rw [HP.out]
            exact ⟨rfl, (hF2.grown hs2 gr (fun k e => by cases e; exact .inr (.inl rfl))).trans (Fr2.below (below_drewN (Below.refl _ _) _)), fun h => absurd h (by simp)⟩
          | false =>
            rw [hS] at cs
            have HN := hid (declP_next l R.seen S j _ hdS.out HX.out (by rw [Int.toNat_natCast]; exact hS))
            clear hS
            go_wp2_with fail
            go_quiet (fail)
            go_wp2_with fail
            have hAd : RwAt (wr.drewN nq) r q pv gv av { R with begun := true, seen := S } := hAr.heap rfl rfl
            have gd : w2.grownBy (wr.drewN nq) (some q) := ⟨gr.os, gr.tape, gr.output, gr.size, gr.block⟩
            have xd : (wr.drewN nq).cell? ⟨w.heap.size, 1, none⟩ = some (.slice (some ⟨g, 0, none⟩) l.length c) := x1
            have cd3 : (wr.drewN nq).cell? ⟨r, 3, none⟩ = some (.slice (some ⟨q, 0, none⟩) 65537 65537) := c3
            have cdx : (wr.drewN nq).cell? ⟨g, j, none⟩ = some (.int .i64 (xn : Int)) := cx
            clear cs cx x1 c3
            generalize wr.drewN nq = wq at *
            have l1 := fun p => cell_since xd p
            have l2 := fun p => cell_since cd3 p
            have l3 := fun p => cell_since cdx p
            refine region_tail 10 (by kernel_rfl) (by kernel_rfl) ?_
            simp only [List.take_succ_cons, List.take_zero, List.drop_succ_cons, List.drop_zero]
            repeat (first | go_big_quiet_step (fail) | quiet_step (fail))
            refine wpQuiet_nil ?_
            rintro W ⟨pw, hW⟩
            have hBW : Below wq.heap.size wq W := by rw [hW]; exact since_below wq pw
            have hAW := hAd.below hBW
            have csW := hAW.seen.cell xn hxn
            have cfW := hAW.seen.free xn
            have gW := gd.trans (grown_of_below hBW (some q))
            have hA9 : RwAt (W.setCell ⟨q, xn, none⟩ (.bool true)) r q pv gv av { R with begun := true, seen := upd S xn true } :=
              ⟨(heap_setCell_other W ⟨q, xn, none⟩ r _ hAW.ne).trans hAW.row, hAW.seen.store xn true, hAW.ne⟩
            clear l1 l2 l3 hW xd cd3 cdx
            go_wp2_with fail
            go_roundg (l.length - (j + 1))
            case measure => omega
            case rel => exact ⟨j + 1, _, by omega, by omega, by go_num, HN, hA9, gW.trans (grown_setCell W ⟨q, xn, none⟩ _)⟩
        · have hltz : ¬ (j : Int) < (l.length : Int) := by omega
          have hdL : declP R.seen l = some S := by have := hdS.out; rwa [List.take_of_length_le (by omega)] at this
          have HDL := hid hdL
          have hvv : R.vars ≤ 1024 := hR.ok.vars
          have x0 := gr.cell y0 (by intro e; injection e with e; exact hzq e)
          have c4 := cell_row hAr.row (j := 4) (v := .int .i64 (R.vars : Int)) rfl
          have hwv : IntKind.i64.wrap ((R.vars : Int) + (l.length : Int)) = (R.vars : Int) + (l.length : Int) := IntWalk.i64_in _ (by omega)
          clear hdL hdS hlt c3
          go_wp2_with fail
          have l1 := fun p => cell_since x1 p
          have l2 := fun p => cell_since c4 p
          refine region_tail 11 (by kernel_rfl) (by kernel_rfl) ?_
          simp only [List.take_succ_cons, List.take_zero, List.drop_succ_cons, List.drop_zero]
          repeat (first | go_big_quiet_step (fail) | quiet_step (fail))
          refine wpQuiet_nil ?_
          rintro W ⟨pw, hW⟩
          have hBW : Below wr.heap.size wr W := by rw [hW]; exact since_below wr pw
          have hAW := hAr.below hBW
          have cW := cell_row hAW.row (j := 4) (v := .int .i64 (R.vars : Int)) rfl
          have fW := frozen_of_row _ _ 4 _ _ hAW.row
          have gW := gr.trans (grown_of_below hBW (some q))
          have hA8 : RwAt (W.setCell ⟨r, 4, none⟩ (.int .i64 ((R.vars : Int) + (l.length : Int)))) r q pv gv av { R with begun := true, seen := S, vars := R.vars + l.length } := hAW.put 4 _ rfl (by simp [stg])
          have g8 : W.grownBy (W.setCell ⟨r, 4, none⟩ (.int .i64 ((R.vars : Int) + (l.length : Int)))) (some r) := grown_setCell W ⟨r, 4, none⟩ _
          obtain ⟨w8, hw8⟩ : ∃ w8, W.setCell ⟨r, 4, none⟩ (.int .i64 ((R.vars : Int) + (l.length : Int))) = w8 := ⟨_, rfl⟩
          rw [hw8] at hA8 g8
          have hWs := gW.size
          have h8s := g8.size
          have u0 := g8.cell (keeps_below hBW _ _ x0) (by intro e; injection e with e; exact hzr e)
          have u1 := g8.cell (keeps_below hBW _ _ x1) (by intro e; injection e with e; exact hzr e)
          have u4 := cell_row hA8.row (j := 4) (v := .int .i64 (((R.vars + l.length : Nat)) : Int)) rfl
          rw [Int.natCast_add] at u4
          have hF8 := (hF2.grown hs2 gW (fun k e => by cases e; exact .inr (.inl rfl))).grown (by omega) g8 (fun k e => by cases e; exact .inl rfl)
          clear l1 l2 hW x0 x1 c4
          by_cases hov : 1024 < R.vars + l.length
          · have HP := hid (show addL R no (.block 2 l) = (3, R) by
              unfold addL; simp only []
              rw [if_neg HNB.out, HDL.out]
              simp only []
              rw [if_pos hov])
            have hov2 : (1024 : Int) < (R.vars : Int) + (l.length : Int) := by omega
            clear hov
            go_wp2_with fail
            go_ret
            unfold AddPost
            rw [HP.out]
            exact ⟨rfl, hF8, fun h => absurd h (by simp)⟩
          · have HP := hid (show addL R no (.block 2 l) = (0, { R with seen := S, vars := R.vars + l.length, begun := true, pre := addBlock R.pre true l }) by
              unfold addL; simp only []
              rw [if_neg HNB.out, HDL.out]
              simp only []
              rw [if_neg hov]
              rfl)
            have hov2 : decide ((1024 : Int) < (R.vars : Int) + (l.length : Int)) = false := decide_eq_false (by omega)
            have HOV := hid hov
            clear hov
            rcases hph with ⟨-, rfl, rfl, hg0, ha0, hOut⟩ | ⟨h0, _⟩
            · have hpb := hR.ok.pre
              have hl8 := ((hl2.kept gW (by right; intro e; have := (hl2.lt q e).1; omega)).kept g8 (by right; intro e; have := (hl2.lt r e).1; omega))
              have CB := blockR_any n0 r q pv _ _ _ true l A c wL w8 hA8 hrn hqn hsz (by have := hBL1.size; omega) hOut (fun k h1 h2 => (g8.block k (by have := hBL1.size; omega) (by intro e; injection e with e; omega)).trans ((gW.block k (by have := hBL1.size; omega) (by intro e; injection e with e; omega)).trans (hK2 k h1 h2))) hl8
                (by have := hR.ok.prel; simp only []; omega) (by have := hR.ok.nv; simp only []; omega) hll (fun x hx y hy => by have := hpb x hx y hy; exact ⟨by omega, by omega⟩)
              clear u4
              have u4 := cell_row hA8.row (j := 4) (v := .int .i64 (((R.vars + l.length : Nat)) : Int)) rfl
              rw [Int.natCast_add] at u4
              go_wp2_with fail
              refine CB.mono ?_
              rintro e w9 ⟨rfl, hF9, pv', hA9, hO9⟩
              go_wp2_with fail
              go_ret
              unfold AddPost
              rw [HP.out]
              have hk := hR.ok
              refine ⟨rfl, hF8.trans (Fr2.fr hF9), fun _ => ⟨hrn, hqn, by have := hF9.size; omega, ⟨?_, ?_, hk.lits, mem_add hk.pre (fun y hy => hx y hy), ?_, Nat.le_succ_of_le hk.gl, hk.al, hk.gs, hk.out⟩, _, _, _, hA9, .inl ⟨HD.out, rfl, rfl, hg0, ha0, hO9⟩⟩⟩
              · have := HOV.out; simp only []; omega
              · simp only [varsOf_add]; rw [hk.nv]
              · have := len_add R.pre true l; have := hk.prel; simp only []; omega
            · rw [HD.out] at h0; cases h0
set_option maxRecDepth 100000 in
set_option maxHeartbeats 4000000 in
theorem addBlock3_any (n0 r q no : Nat) (R : RS) (l : List Int) (A : Option Addr) (c : Nat) (wL w : World) (hR : RdrR wL n0 r q R no) (hB : Below wL.heap.size wL w) (hl : w.ownsRow wL.heap.size 3 1 (.slice A l.length c) l.length (nums l)) (hx : ∀ x ∈ l, 0 ≤ x ∧ x ≤ 65536) (hll : l.length ≤ 4194306) (hno : no ≤ 4194305) :
    Calls Tryz.prog 66 #[.pointer (some ⟨r, 0, none⟩), .agg #[.string ⟨#[102, 111, 114, 97, 108, 108]⟩, .slice A l.length c, .int .i64 0], .int .i64 (no : Int)] w (AddPost n0 r q no R (.block 3 l) w) := by
  obtain ⟨pv, gv, av, hA, hph⟩ := hR.mem
  obtain ⟨w1, hw1, -, -, hz1, hB1, q1⟩ := new_block w #[.string ⟨#[102, 111, 114, 97, 108, 108]⟩, .slice A l.length c, .int .i64 0] 113
  have z0 := cell_row q1 (j := 0) (v := .string ⟨#[102, 111, 114, 97, 108, 108]⟩) rfl
  have z1 := cell_row q1 (j := 1) (v := .slice A l.length c) rfl
  have z2 := cell_row q1 (j := 2) (v := .int .i64 0) rfl
  have hBL1 := below_then hB hB.size hB1
  have hA1 := hA.below hBL1
  have hl1 := hl.kept (grown_of_below hB1 none) (by cases (Value.slice A l.length c).ownBlock <;> simp)
  have c6 := cell_row hA1.row (j := 6) (v := .int .i64 (stg R)) rfl
  have f6 := frozen_of_row _ _ 6 _ _ hA1.row
  have hsz := hR.size
  have hsz2 := hB.size
  have hn1 : n0 ≤ w1.heap.size := by omega
  have hF1 : Fr2 n0 r q w w1 := Fr2.below (hB1.mono (by omega))
  have hrn := hR.rn
  have hqn := hR.qn
  have hzr : w.heap.size ≠ r := by omega
  have hzq : w.heap.size ≠ q := by omega
  cases hd : R.done with
  | true =>
    have hst : stg R = 2 := by unfold stg; rw [if_pos hd]
    have HP := hid (show addL R no (.block 3 l) = (5, R) by unfold addL; simp only []; rw [if_pos (by simp [hd])])
    rw [hst] at c6
    clear hst hd
    go_enter Tryz.func66, Tryz.ntmps66
    go_wp2_with fail
    go_ret
    unfold AddPost
    rw [HP.out]
    exact ⟨rfl, hF1, fun h => absurd h (by simp)⟩
  | false =>
    have HNB : Hid (¬ (R.done = true ∨ 3 = 1 ∧ R.begun = true)) := hid (by rw [hd]; simp)
    rcases (show (stg R == 1) = true ∨ (stg R == 1) = false by cases (stg R == 1) <;> simp) with HSG | HSG
    · skip
      have hst2 : (stg R == 2) = false := by unfold stg; rw [if_neg (by rw [hd]; simp)]; split <;> decide
      have hA2 : RwAt (w1.setCell ⟨r, 6, none⟩ (.int .i64 1)) r q pv gv av { R with begun := true } := hA1.put 6 _ rfl (by simp [stg, hd])
      have g2 : w1.grownBy (w1.setCell ⟨r, 6, none⟩ (.int .i64 1)) (some r) := grown_setCell w1 ⟨r, 6, none⟩ _
      have HD := hid hd
      have HST := hid hst2
      generalize hsg : stg R = sg at c6 hst2 HSG
      go_enter Tryz.func66, Tryz.ntmps66
      go_wp2_with fail
      have hl2 := hl1.kept g2 (by right; intro e; have := (hl1.lt r e).1; omega)
      have y0 := g2.cell z0 (by intro e; injection e with e; exact hzr e)
      have y1 := g2.cell z1 (by intro e; injection e with e; exact hzr e)
      have hF2 := hF1.grown hn1 g2 (fun k e => by cases e; exact .inl rfl)
      have hs2 : n0 ≤ (w1.setCell ⟨r, 6, none⟩ (.int .i64 1)).heap.size := by have := g2.size; omega
      have hz2 : w.heap.size < (w1.setCell ⟨r, 6, none⟩ (.int .i64 1)).heap.size := by have := g2.size; omega
      have hK2 : ∀ k, n0 ≤ k → k < wL.heap.size → (w1.setCell ⟨r, 6, none⟩ (.int .i64 1)).heap[k]? = wL.heap[k]? := fun k h1 h2 => (g2.block k (by have := hBL1.size; omega) (by intro e; injection e with e; omega)).trans (hBL1.block k h2)
      generalize w1.setCell ⟨r, 6, none⟩ (.int .i64 1) = w2 at *
      clear c6 f6 z0 z1 z2 hst2 hA1 hl1 hl hA
      have hqw : q < w2.heap.size := hA2.seen.lt
      go_loopg [9] l.length (fun gg s9 wr => ∃ (j : Nat) (S : Nat → Bool), j ≤ l.length ∧ l.length - j ≤ gg ∧ s9 = .int .i64 (j : Int) ∧ Hid (declP R.seen (l.take j) = some S) ∧ RwAt wr r q pv gv av { R with begun := true, seen := S } ∧ w2.grownBy wr (some q))
      case atStart => exact ⟨0, R.seen, Nat.zero_le _, by omega, rfl, hid (by simp [declP]), hA2, World.grownBy.refl _ _⟩
      case round =>
        obtain ⟨j, S, hj, hgk, rfl, hdS, hAr, gr⟩ := hrel
        have x1 := gr.cell y1 (by intro e; injection e with e; exact hzq e)
        have c3 := cell_row hAr.row (j := 3) (v := .slice (some ⟨q, 0, none⟩) 65537 65537) rfl
        by_cases hlt : j < l.length
        · have hltz : (j : Int) < (l.length : Int) := by omega
          obtain ⟨x, hxj, hxm, -⟩ := nth hlt
          have hxb := hx x hxm
          obtain ⟨xn, rfl⟩ : ∃ k : Nat, x = (k : Int) := ⟨x.toNat, by omega⟩
          obtain ⟨g, cap, hAc, hg1, hg2, hg3⟩ := own_form hl2 (by omega)
          injection hAc with e1 e2 e3
          subst e1; subst e3
          have hlr := hl2.kept gr (by right; intro e; have := (hl2.lt q e).1; omega)
          have cx : wr.cell? ⟨g, j, none⟩ = some (.int .i64 (xn : Int)) := (hlr.cellAt j (by omega)).trans (nums_get hxj)
          have hxn : xn < 65537 := by omega
          have cs := hAr.seen.cell xn hxn
          simp only [] at cs
          have HX := hid hxj
          clear hxj hxm hxb
          cases hS : S xn with
          | true =>
            rw [hS] at cs
            have HP := hid (show addL R no (.block 3 l) = (7, R) by
              unfold addL; simp only []
              rw [if_neg HNB.out, declP_bad l R.seen S j _ hdS.out HX.out (by rw [Int.toNat_natCast]; exact hS)])
            clear hS
            go_wp2_with fail
            go_quiet (fail)
            go_wp2_with fail
            go_ret
            unfold AddPost
            rw [HP.out]
            exact ⟨rfl, (hF2.grown hs2 gr (fun k e => by cases e; exact .inr (.inl rfl))).trans (Fr2.below (below_drewN (Below.refl _ _) _)), fun h => absurd h (by simp)⟩
          | false =>
            rw [hS] at cs
            have HN := hid (declP_next l R.seen S j _ hdS.out HX.out (by rw [Int.toNat_natCast]; exact hS))
            clear hS
            go_wp2_with fail
            go_quiet (fail)
            go_wp2_with fail
            have hAd : RwAt (wr.drewN nq) r q pv gv av { R with begun := true, seen := S } := hAr.heap rfl rfl
            have gd : w2.grownBy (wr.drewN nq) (some q) := ⟨gr.os, gr.tape, gr.output, gr.size, gr.block⟩
            have xd : (wr.drewN nq).cell? ⟨w.heap.size, 1, none⟩ = some (.slice (some ⟨g, 0, none⟩) l.length c) := x1
            have cd3 : (wr.drewN nq).cell? ⟨r, 3, none⟩ = some (.slice (some ⟨q, 0, none⟩) 65537 65537) := c3
            have cdx : (wr.drewN nq).cell? ⟨g, j, none⟩ = some (.int .i64 (xn : Int)) := cx
            clear cs cx x1 c3
            generalize wr.drewN nq = wq at *
            have l1 := fun p => cell_since xd p
            have l2 := fun p => cell_since cd3 p
            have l3 := fun p => cell_since cdx p
            refine region_tail 10 (by kernel_rfl) (by kernel_rfl) ?_
            simp only [List.take_succ_cons, List.take_zero, List.drop_succ_cons, List.drop_zero]
            repeat (first | go_big_quiet_step (fail) | quiet_step (fail))
            refine wpQuiet_nil ?_
            rintro W ⟨pw, hW⟩
            have hBW : Below wq.heap.size wq W := by rw [hW]; exact since_below wq pw
            have hAW := hAd.below hBW
            have csW := hAW.seen.cell xn hxn
            have cfW := hAW.seen.free xn
            have gW := gd.trans (grown_of_below hBW (some q))
            have hA9 : RwAt (W.setCell ⟨q, xn, none⟩ (.bool true)) r q pv gv av { R with begun := true, seen := upd S xn true } :=
              ⟨(heap_setCell_other W ⟨q, xn, none⟩ r _ hAW.ne).trans hAW.row, hAW.seen.store xn true, hAW.ne⟩
            clear l1 l2 l3 hW xd cd3 cdx
            go_wp2_with fail
            go_roundg (l.length - (j + 1))
            case measure => omega
            case rel => exact ⟨j + 1, _, by omega, by omega, by go_num, HN, hA9, gW.trans (grown_setCell W ⟨q, xn, none⟩ _)⟩
        · have hltz : ¬ (j : Int) < (l.length : Int) := by omega
          have hdL : declP R.seen l = some S := by have := hdS.out; rwa [List.take_of_length_le (by omega)] at this
          have HDL := hid hdL
          have hvv : R.vars ≤ 1024 := hR.ok.vars
          have x0 := gr.cell y0 (by intro e; injection e with e; exact hzq e)
          have c4 := cell_row hAr.row (j := 4) (v := .int .i64 (R.vars : Int)) rfl
          have hwv : IntKind.i64.wrap ((R.vars : Int) + (l.length : Int)) = (R.vars : Int) + (l.length : Int) := IntWalk.i64_in _ (by omega)
          clear hdL hdS hlt c3
          go_wp2_with fail
          have l1 := fun p => cell_since x1 p
          have l2 := fun p => cell_since c4 p
          refine region_tail 11 (by kernel_rfl) (by kernel_rfl) ?_
          simp only [List.take_succ_cons, List.take_zero, List.drop_succ_cons, List.drop_zero]
          repeat (first | go_big_quiet_step (fail) | quiet_step (fail))
          refine wpQuiet_nil ?_
          rintro W ⟨pw, hW⟩
          have hBW : Below wr.heap.size wr W := by rw [hW]; exact since_below wr pw
          have hAW := hAr.below hBW
          have cW := cell_row hAW.row (j := 4) (v := .int .i64 (R.vars : Int)) rfl
          have fW := frozen_of_row _ _ 4 _ _ hAW.row
          have gW := gr.trans (grown_of_below hBW (some q))
          have hA8 : RwAt (W.setCell ⟨r, 4, none⟩ (.int .i64 ((R.vars : Int) + (l.length : Int)))) r q pv gv av { R with begun := true, seen := S, vars := R.vars + l.length } := hAW.put 4 _ rfl (by simp [stg])
          have g8 : W.grownBy (W.setCell ⟨r, 4, none⟩ (.int .i64 ((R.vars : Int) + (l.length : Int)))) (some r) := grown_setCell W ⟨r, 4, none⟩ _
          obtain ⟨w8, hw8⟩ : ∃ w8, W.setCell ⟨r, 4, none⟩ (.int .i64 ((R.vars : Int) + (l.length : Int))) = w8 := ⟨_, rfl⟩
          rw [hw8] at hA8 g8
          have hWs := gW.size
          have h8s := g8.size
          have u0 := g8.cell (keeps_below hBW _ _ x0) (by intro e; injection e with e; exact hzr e)
          have u1 := g8.cell (keeps_below hBW _ _ x1) (by intro e; injection e with e; exact hzr e)
          have u4 := cell_row hA8.row (j := 4) (v := .int .i64 (((R.vars + l.length : Nat)) : Int)) rfl
          rw [Int.natCast_add] at u4
          have hF8 := (hF2.grown hs2 gW (fun k e => by cases e; exact .inr (.inl rfl))).grown (by omega) g8 (fun k e => by cases e; exact .inl rfl)
          clear l1 l2 hW x0 x1 c4
          by_cases hov : 1024 < R.vars + l.length
          · have HP := hid (show addL R no (.block 3 l) = (3, R) by
              unfold addL; simp only []
              rw [if_neg HNB.out, HDL.out]
              simp only []
              rw [if_pos hov])
            have hov2 : (1024 : Int) < (R.vars : Int) + (l.length : Int) := by omega
            clear hov
            go_wp2_with fail
            go_ret
            unfold AddPost
            rw [HP.out]
            exact ⟨rfl, hF8, fun h => absurd h (by simp)⟩
          · have HP := hid (show addL R no (.block 3 l) = (0, { R with seen := S, vars := R.vars + l.length, begun := true, pre := addBlock R.pre false l }) by
              unfold addL; simp only []
              rw [if_neg HNB.out, HDL.out]
              simp only []
              rw [if_neg hov]
              rfl)
            have hov2 : decide ((1024 : Int) < (R.vars : Int) + (l.length : Int)) = false := decide_eq_false (by omega)
            have HOV := hid hov
            clear hov
            rcases hph with ⟨-, rfl, rfl, hg0, ha0, hOut⟩ | ⟨h0, _⟩
            · have hpb := hR.ok.pre
              have hl8 := ((hl2.kept gW (by right; intro e; have := (hl2.lt q e).1; omega)).kept g8 (by right; intro e; have := (hl2.lt r e).1; omega))
              have CB := blockR_any n0 r q pv _ _ _ false l A c wL w8 hA8 hrn hqn hsz (by have := hBL1.size; omega) hOut (fun k h1 h2 => (g8.block k (by have := hBL1.size; omega) (by intro e; injection e with e; omega)).trans ((gW.block k (by have := hBL1.size; omega) (by intro e; injection e with e; omega)).trans (hK2 k h1 h2))) hl8
                (by have := hR.ok.prel; simp only []; omega) (by have := hR.ok.nv; simp only []; omega) hll (fun x hx y hy => by have := hpb x hx y hy; exact ⟨by omega, by omega⟩)
              clear u4
              have u4 := cell_row hA8.row (j := 4) (v := .int .i64 (((R.vars + l.length : Nat)) : Int)) rfl
              rw [Int.natCast_add] at u4
              go_wp2_with fail
              refine CB.mono ?_
              rintro e w9 ⟨rfl, hF9, pv', hA9, hO9⟩
              go_wp2_with fail
              go_ret
              unfold AddPost
              rw [HP.out]
              have hk := hR.ok
              refine ⟨rfl, hF8.trans (Fr2.fr hF9), fun _ => ⟨hrn, hqn, by have := hF9.size; omega, ⟨?_, ?_, hk.lits, mem_add hk.pre (fun y hy => hx y hy), ?_, Nat.le_succ_of_le hk.gl, hk.al, hk.gs, hk.out⟩, _, _, _, hA9, .inl ⟨HD.out, rfl, rfl, hg0, ha0, hO9⟩⟩⟩
              · have := HOV.out; simp only []; omega
              · simp only [varsOf_add]; rw [hk.nv]
              · have := len_add R.pre false l; have := hk.prel; simp only []; omega
            · rw [HD.out] at h0; cases h0
    · skip
      have hst2 : (stg R == 2) = false := by unfold stg; rw [if_neg (by rw [hd]; simp)]; split <;> decide
      have hA2 : RwAt (w1.setCell ⟨r, 6, none⟩ (.int .i64 1)) r q pv gv av { R with begun := true } := hA1.put 6 _ rfl (by simp [stg, hd])
      have g2 : w1.grownBy (w1.setCell ⟨r, 6, none⟩ (.int .i64 1)) (some r) := grown_setCell w1 ⟨r, 6, none⟩ _
      have HD := hid hd
      have HST := hid hst2
      generalize hsg : stg R = sg at c6 hst2 HSG
      go_enter Tryz.func66, Tryz.ntmps66
      go_wp2_with fail
      have hl2 := hl1.kept g2 (by right; intro e; have := (hl1.lt r e).1; omega)
      have y0 := g2.cell z0 (by intro e; injection e with e; exact hzr e)
      have y1 := g2.cell z1 (by intro e; injection e with e; exact hzr e)
      have hF2 := hF1.grown hn1 g2 (fun k e => by cases e; exact .inl rfl)
      have hs2 : n0 ≤ (w1.setCell ⟨r, 6, none⟩ (.int .i64 1)).heap.size := by have := g2.size; omega
      have hz2 : w.heap.size < (w1.setCell ⟨r, 6, none⟩ (.int .i64 1)).heap.size := by have := g2.size; omega
      have hK2 : ∀ k, n0 ≤ k → k < wL.heap.size → (w1.setCell ⟨r, 6, none⟩ (.int .i64 1)).heap[k]? = wL.heap[k]? := fun k h1 h2 => (g2.block k (by have := hBL1.size; omega) (by intro e; injection e with e; omega)).trans (hBL1.block k h2)
      generalize w1.setCell ⟨r, 6, none⟩ (.int .i64 1) = w2 at *
      clear c6 f6 z0 z1 z2 hst2 hA1 hl1 hl hA
      have hqw : q < w2.heap.size := hA2.seen.lt
      go_loopg [9] l.length (fun gg s9 wr => ∃ (j : Nat) (S : Nat → Bool), j ≤ l.length ∧ l.length - j ≤ gg ∧ s9 = .int .i64 (j : Int) ∧ Hid (declP R.seen (l.take j) = some S) ∧ RwAt wr r q pv gv av { R with begun := true, seen := S } ∧ w2.grownBy wr (some q))
      case atStart => exact ⟨0, R.seen, Nat.zero_le _, by omega, rfl, hid (by simp [declP]), hA2, World.grownBy.refl _ _⟩
      case round =>
        obtain ⟨j, S, hj, hgk, rfl, hdS, hAr, gr⟩ := hrel
        have x1 := gr.cell y1 (by intro e; injection e with e; exact hzq e)
        have c3 := cell_row hAr.row (j := 3) (v := .slice (some ⟨q, 0, none⟩) 65537 65537) rfl
        by_cases hlt : j < l.length
        · have hltz : (j : Int) < (l.length : Int) := by omega
          obtain ⟨x, hxj, hxm, -⟩ := nth hlt
          have hxb := hx x hxm
          obtain ⟨xn, rfl⟩ : ∃ k : Nat, x = (k : Int) := ⟨x.toNat, by omega⟩
          obtain ⟨g, cap, hAc, hg1, hg2, hg3⟩ := own_form hl2 (by omega)
          injection hAc with e1 e2 e3
          subst e1; subst e3
          have hlr := hl2.kept gr (by right; intro e; have := (hl2.lt q e).1; omega)
          have cx : wr.cell? ⟨g, j, none⟩ = some (.int .i64 (xn : Int)) := (hlr.cellAt j (by omega)).trans (nums_get hxj)
          have hxn : xn < 65537 := by omega
          have cs := hAr.seen.cell xn hxn
          simp only [] at cs
          have HX := hid hxj
          clear hxj hxm hxb
          cases hS : S xn with
          | true =>
            rw [hS] at cs
            have HP := hid (show addL R no (.block 3 l) = (7, R) by
              unfold addL; simp only []
              rw [if_neg HNB.out, declP_bad l R.seen S j _ hdS.out HX.out (by rw [Int.toNat_natCast]; exact hS)])
            clear hS
            go_wp2_with fail
            go_quiet (fail)
            go_wp2_with fail
            go_ret
            unfold AddPost
            rw [HP.out]
            exact ⟨rfl, (hF2.grown hs2 gr (fun k e => by cases e; exact .inr (.inl rfl))).trans (Fr2.below (below_drewN (Below.refl _ _) _)), fun h => absurd h (by simp)⟩
          | false =>
            rw [hS] at cs
            have HN := hid (declP_next l R.seen S j _ hdS.out HX.out (by rw [Int.toNat_natCast]; exact hS))
            clear hS
            go_wp2_with fail
            go_quiet (fail)
            go_wp2_with fail
            have hAd : RwAt (wr.drewN nq) r q pv gv av { R with begun := true, seen := S } := hAr.heap rfl rfl
            have gd : w2.grownBy (wr.drewN nq) (some q) := ⟨gr.os, gr.tape, gr.output, gr.size, gr.block⟩
            have xd : (wr.drewN nq).cell? ⟨w.heap.size, 1, none⟩ = some (.slice (some ⟨g, 0, none⟩) l.length c) := x1
            have cd3 : (wr.drewN nq).cell? ⟨r, 3, none⟩ = some (.slice (some ⟨q, 0, none⟩) 65537 65537) := c3
            have cdx : (wr.drewN nq).cell? ⟨g, j, none⟩ = some (.int .i64 (xn : Int)) := cx
            clear cs cx x1 c3
            generalize wr.drewN nq = wq at *
            have l1 := fun p => cell_since xd p
            have l2 := fun p => cell_since cd3 p
            have l3 := fun p => cell_since cdx p
            refine region_tail 10 (by kernel_rfl) (by kernel_rfl) ?_
            simp only [List.take_succ_cons, List.take_zero, List.drop_succ_cons, List.drop_zero]
            repeat (first | go_big_quiet_step (fail) | quiet_step (fail))
            refine wpQuiet_nil ?_
            rintro W ⟨pw, hW⟩
            have hBW : Below wq.heap.size wq W := by rw [hW]; exact since_below wq pw
            have hAW := hAd.below hBW
            have csW := hAW.seen.cell xn hxn
            have cfW := hAW.seen.free xn
            have gW := gd.trans (grown_of_below hBW (some q))
            have hA9 : RwAt (W.setCell ⟨q, xn, none⟩ (.bool true)) r q pv gv av { R with begun := true, seen := upd S xn true } :=
              ⟨(heap_setCell_other W ⟨q, xn, none⟩ r _ hAW.ne).trans hAW.row, hAW.seen.store xn true, hAW.ne⟩
            clear l1 l2 l3 hW xd cd3 cdx
            go_wp2_with fail
            go_roundg (l.length - (j + 1))
            case measure => omega
            case rel => exact ⟨j + 1, _, by omega, by omega, by go_num, HN, hA9, gW.trans (grown_setCell W ⟨q, xn, none⟩ _)⟩
        · have hltz : ¬ (j : Int) < (l.length : Int) := by omega
          have hdL : declP R.seen l = some S := by have := hdS.out; rwa [List.take_of_length_le (by omega)] at this
          have HDL := hid hdL
          have hvv : R.vars ≤ 1024 := hR.ok.vars
          have x0 := gr.cell y0 (by intro e; injection e with e; exact hzq e)
          have c4 := cell_row hAr.row (j := 4) (v := .int .i64 (R.vars : Int)) rfl
          have hwv : IntKind.i64.wrap ((R.vars : Int) + (l.length : Int)) = (R.vars : Int) + (l.length : Int) := IntWalk.i64_in _ (by omega)
          clear hdL hdS hlt c3
          go_wp2_with fail
          have l1 := fun p => cell_since x1 p
          have l2 := fun p => cell_since c4 p
          refine region_tail 11 (by kernel_rfl) (by kernel_rfl) ?_
          simp only [List.take_succ_cons, List.take_zero, List.drop_succ_cons, List.drop_zero]
          repeat (first | go_big_quiet_step (fail) | quiet_step (fail))
          refine wpQuiet_nil ?_
          rintro W ⟨pw, hW⟩
          have hBW : Below wr.heap.size wr W := by rw [hW]; exact since_below wr pw
          have hAW := hAr.below hBW
          have cW := cell_row hAW.row (j := 4) (v := .int .i64 (R.vars : Int)) rfl
          have fW := frozen_of_row _ _ 4 _ _ hAW.row
          have gW := gr.trans (grown_of_below hBW (some q))
          have hA8 : RwAt (W.setCell ⟨r, 4, none⟩ (.int .i64 ((R.vars : Int) + (l.length : Int)))) r q pv gv av { R with begun := true, seen := S, vars := R.vars + l.length } := hAW.put 4 _ rfl (by simp [stg])
          have g8 : W.grownBy (W.setCell ⟨r, 4, none⟩ (.int .i64 ((R.vars : Int) + (l.length : Int)))) (some r) := grown_setCell W ⟨r, 4, none⟩ _
          obtain ⟨w8, hw8⟩ : ∃ w8, W.setCell ⟨r, 4, none⟩ (.int .i64 ((R.vars : Int) + (l.length : Int))) = w8 := ⟨_, rfl⟩
          rw [hw8] at hA8 g8
          have hWs := gW.size
          have h8s := g8.size
          have u0 := g8.cell (keeps_below hBW _ _ x0) (by intro e; injection e with e; exact hzr e)
          have u1 := g8.cell (keeps_below hBW _ _ x1) (by intro e; injection e with e; exact hzr e)
          have u4 := cell_row hA8.row (j := 4) (v := .int .i64 (((R.vars + l.length : Nat)) : Int)) rfl
          rw [Int.natCast_add] at u4
          have hF8 := (hF2.grown hs2 gW (fun k e => by cases e; exact .inr (.inl rfl))).grown (by omega) g8 (fun k e => by cases e; exact .inl rfl)
          clear l1 l2 hW x0 x1 c4
          by_cases hov : 1024 < R.vars + l.length
          · have HP := hid (show addL R no (.block 3 l) = (3, R) by
              unfold addL; simp only []
              rw [if_neg HNB.out, HDL.out]
              simp only []
              rw [if_pos hov])
            have hov2 : (1024 : Int) < (R.vars : Int) + (l.length : Int) := by omega
            clear hov
            go_wp2_with fail
            go_ret
            unfold AddPost
            rw [HP.out]
            exact ⟨rfl, hF8, fun h => absurd h (by simp)⟩
          · have HP := hid (show addL R no (.block 3 l) = (0, { R with seen := S, vars := R.vars + l.length, begun := true, pre := addBlock R.pre false l }) by
              unfold addL; simp only []
              rw [if_neg HNB.out, HDL.out]
              simp only []
              rw [if_neg hov]
              rfl)
            have hov2 : decide ((1024 : Int) < (R.vars : Int) + (l.length : Int)) = false := decide_eq_false (by omega)
            have HOV := hid hov
            clear hov
            rcases hph with ⟨-, rfl, rfl, hg0, ha0, hOut⟩ | ⟨h0, _⟩
            · have hpb := hR.ok.pre
              have hl8 := ((hl2.kept gW (by right; intro e; have := (hl2.lt q e).1; omega)).kept g8 (by right; intro e; have := (hl2.lt r e).1; omega))
              have CB := blockR_any n0 r q pv _ _ _ false l A c wL w8 hA8 hrn hqn hsz (by have := hBL1.size; omega) hOut (fun k h1 h2 => (g8.block k (by have := hBL1.size; omega) (by intro e; injection e with e; omega)).trans ((gW.block k (by have := hBL1.size; omega) (by intro e; injection e with e; omega)).trans (hK2 k h1 h2))) hl8
                (by have := hR.ok.prel; simp only []; omega) (by have := hR.ok.nv; simp only []; omega) hll (fun x hx y hy => by have := hpb x hx y hy; exact ⟨by omega, by omega⟩)
              clear u4
              have u4 := cell_row hA8.row (j := 4) (v := .int .i64 (((R.vars + l.length : Nat)) : Int)) rfl
              rw [Int.natCast_add] at u4
              go_wp2_with fail
              refine CB.mono ?_
              rintro e w9 ⟨rfl, hF9, pv', hA9, hO9⟩
              go_wp2_with fail
              go_ret
              unfold AddPost
              rw [HP.out]
              have hk := hR.ok
              refine ⟨rfl, hF8.trans (Fr2.fr hF9), fun _ => ⟨hrn, hqn, by have := hF9.size; omega, ⟨?_, ?_, hk.lits, mem_add hk.pre (fun y hy => hx y hy), ?_, Nat.le_succ_of_le hk.gl, hk.al, hk.gs, hk.out⟩, _, _, _, hA9, .inl ⟨HD.out, rfl, rfl, hg0, ha0, hO9⟩⟩⟩
              · have := HOV.out; simp only []; omega
              · simp only [varsOf_add]; rw [hk.nv]
              · have := len_add R.pre false l; have := hk.prel; simp only []; omega
            · rw [HD.out] at h0; cases h0
end Go.Proofs.YtnlobmepajakcaaGreatDoor
