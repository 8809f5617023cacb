/- What QcirBack returns: true; the condition: each gate has at most 2^44 literals. -/
import Derived.Test.YtnlobmepajakcaaGreatDoorGr
import Derived.Test.YtnlobmepajakcaaGreatDoorSame
import Derived.Test.YtnlobmepajakcaaGreatDoorRefM
set_option linter.unusedVariables false
set_option linter.unusedSimpArgs false
namespace Go.Proofs.YtnlobmepajakcaaGreatDoor
open Go.RowKit Go.Shelf
attribute [local go_sem] Oper.semAt_some

theorem below_le {B : Nat} {a b c : World} (h : Below B a b) (hB : B ≤ a.heap.size) (k : Below b.heap.size b c) : Below B a c := below_then h (Nat.le_trans hB h.size) k
set_option maxRecDepth 100000 in
set_option maxHeartbeats 2000000 in
theorem QcirBack_any (v : Value) (N : PNet) (w : World) (h : NetAt w v N) (hb : ∀ g ∈ N.gates, g.ins.length ≤ 17592186044416) (hE : Env w) :
    Calls Tryz.prog 7 #[v] w fun e w' => e = .returned (.bool true) ∧ Below w.heap.size w w' := by
  obtain ⟨Ap, cp, Ag, cg, rfl⟩ := net_parts h
  obtain ⟨w1, hw1, -, -, hz1, hB1, q1⟩ := new_block w #[.slice Ap N.pre.length cp, .slice Ag N.gates.length cg, .int .i64 N.out] 40
  have rows : ∀ W, Below w1.heap.size w1 W → W.cell? ⟨w.heap.size, 0, none⟩ = some (.slice Ap N.pre.length cp) ∧ W.cell? ⟨w.heap.size, 1, none⟩ = some (.slice Ag N.gates.length cg) ∧ W.cell? ⟨w.heap.size, 2, none⟩ = some (.int .i64 N.out) := fun W hW =>
    ⟨cell_row (row_below q1 hW) rfl, cell_row (row_below q1 hW) rfl, cell_row (row_below q1 hW) rfl⟩
  have nets : ∀ W, Below w1.heap.size w1 W → NetAt W (.agg #[.slice Ap N.pre.length cp, .slice Ag N.gates.length cg, .int .i64 N.out]) N := fun W hW => h.keep (keeps_below (below_then hB1 hB1.size hW))
  have envs : ∀ W, Below w1.heap.size w1 W → Env W := fun W hW => hE.below (below_then hB1 hB1.size hW) hE.size
  have fin : ∀ W, Below w1.heap.size w1 W → Below w.heap.size w W := fun W hW => below_then hB1 hB1.size hW
  have R0 := Below.refl w1.heap.size w1
  have CG := great_any _ N w1 (nets w1 R0) hb
  obtain ⟨a0, a1, a2⟩ := rows w1 R0
  clear h q1 hB1
  cases hg : greatB N with
  | true =>
    rw [hg] at CG
    clear hg
    go_enter Tryz.func7, Tryz.ntmps7
    go_wp2_with fail
    refine CG.mono ?_
    rintro e w2 ⟨rfl, hB2⟩
    go_wp2_with fail
    refine (works_any w2 (envs w2 hB2)).mono ?_
    rintro e w3 ⟨rfl, hB3⟩
    go_wp2_with fail
    go_ret
    exact ⟨rfl, fin w3 (below_le hB2 (Nat.le_refl _) hB3)⟩
  | false =>
    rw [hg] at CG
    obtain ⟨hgl, hgs⟩ := great_no hg
    clear hg
    cases hM : mayP N with
    | false =>
      have HP : printP N = ([], 2) := by unfold printP; rw [if_neg (by rw [hM]; simp)]
      have HP := hid HP
      have HM := hid hM
      clear hM
      go_enter Tryz.func7, Tryz.ntmps7
      go_wp2_with fail
      refine CG.mono ?_
      rintro e w2 ⟨rfl, hB2⟩
      obtain ⟨b0, b1, b2⟩ := rows w2 hB2
      have CP : Calls Tryz.prog 23 #[.agg #[.slice Ap N.pre.length cp, .slice Ag N.gates.length cg, .int .i64 N.out]] w2 fun e w' => e = .returned (.tuple #[.string ⟨#[]⟩, .int .i64 2]) ∧ Below w2.heap.size w2 w' := by
        have C := Print_any _ N w2 (nets w2 hB2) (by omega) (envs w2 hB2)
        rw [HP.out] at C
        exact C
      clear a0 a1 a2 CG
      go_wp2_with fail
      refine CP.mono ?_
      rintro e w3 ⟨rfl, hB3⟩
      have hB13 := below_le hB2 (Nat.le_refl _) hB3
      obtain ⟨c0, c1, c2⟩ := rows w3 hB13
      have CM := MayR_any _ N w3 (nets w3 hB13) (by omega) (by omega)
      rw [HM.out] at CM
      clear b0 b1 b2 CP
      go_wp2_with fail
      refine CM.mono ?_
      rintro e w4 ⟨rfl, hB4⟩
      have hB14 := below_le hB13 (Nat.le_refl _) hB4
      clear CM c0 c1 c2
      go_wp2_with fail
      refine (works_any w4 (envs w4 hB14)).mono ?_
      rintro e w5 ⟨rfl, hB5⟩
      go_wp2_with fail
      go_ret
      exact ⟨rfl, fin w5 (below_le hB14 (Nat.le_refl _) hB5)⟩
    | true =>
      have hT := may_text hM hgl hgs
      have HP : printP N = (textP N, 0) := by unfold printP; rw [if_pos hM, if_neg (by omega)]
      have HR := hid (read_text hM hT)
      have HP := hid HP
      have HM := hid hM
      clear hM
      go_enter Tryz.func7, Tryz.ntmps7
      go_wp2_with fail
      refine CG.mono ?_
      rintro e w2 ⟨rfl, hB2⟩
      obtain ⟨b0, b1, b2⟩ := rows w2 hB2
      have CP : Calls Tryz.prog 23 #[.agg #[.slice Ap N.pre.length cp, .slice Ag N.gates.length cg, .int .i64 N.out]] w2 fun e w' => e = .returned (.tuple #[.string ⟨(textP N).toArray⟩, .int .i64 0]) ∧ Below w2.heap.size w2 w' := by
        have C := Print_any _ N w2 (nets w2 hB2) (by omega) (envs w2 hB2)
        rw [HP.out] at C
        exact C
      clear a0 a1 a2 CG
      go_wp2_with fail
      refine CP.mono ?_
      rintro e w3 ⟨rfl, hB3⟩
      have hB13 := below_le hB2 (Nat.le_refl _) hB3
      obtain ⟨c0, c1, c2⟩ := rows w3 hB13
      have CM := MayR_any _ N w3 (nets w3 hB13) (by omega) (by omega)
      rw [HM.out] at CM
      clear b0 b1 b2 CP
      go_wp2_with fail
      refine CM.mono ?_
      rintro e w4 ⟨rfl, hB4⟩
      have hB14 := below_le hB13 (Nat.le_refl _) hB4
      have CR := Read_any (textP N) w4 (envs w4 hB14) (by omega)
      rw [HR.out] at CR
      clear CM c0 c1 c2
      go_wp2_with fail
      refine CR.mono ?_
      rintro e w5 ⟨hB5, vn, rfl, hNm⟩
      obtain ⟨Bp, dp, Bg, dg, rfl⟩ := net_parts hNm
      have hB15 := below_le hB14 (Nat.le_refl _) hB5
      obtain ⟨w6, hw6, -, -, hz6, hB6, q6⟩ := new_block w5 #[.slice Bp N.pre.length dp, .slice Bg N.gates.length dg, .int .i64 N.out] 40
      have hB16 := below_le hB15 (Nat.le_refl _) hB6
      obtain ⟨c0, c1, c2⟩ := rows w6 hB16
      have d0 := cell_row q6 (j := 0) (v := .slice Bp N.pre.length dp) rfl
      have d1 := cell_row q6 (j := 1) (v := .slice Bg N.gates.length dg) rfl
      have d2 := cell_row q6 (j := 2) (v := .int .i64 N.out) rfl
      have CS := SameR_any _ _ N N w6 (nets w6 hB16) (hNm.keep (keeps_below hB6))
      rw [decide_eq_true (rfl : N = N)] at CS
      clear CR hNm
      go_wp2_with fail
      refine CS.mono ?_
      rintro e w7 ⟨rfl, hB7⟩
      have hB17 := below_le hB16 (Nat.le_refl _) hB7
      clear c0 c1 c2 d0 d1 d2 CS hw6
      go_wp2_with fail
      refine (works_any w7 (envs w7 hB17)).mono ?_
      rintro e w8 ⟨rfl, hB8⟩
      go_wp2_with fail
      go_ret
      exact ⟨rfl, fin w8 (below_le hB17 (Nat.le_refl _) hB8)⟩
end Go.Proofs.YtnlobmepajakcaaGreatDoor
