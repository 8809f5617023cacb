/- What QcirAgain returns: true; the condition: texts have at most 2^62 bytes. -/
import Derived.Test.YtnlobmepajakcaaGreatDoorLawB
set_option linter.unusedVariables false
set_option linter.unusedSimpArgs false
namespace Go.Proofs.YtnlobmepajakcaaGreatDoor
open Go.RowKit Go.Shelf
attribute [local go_sem] Oper.semAt_some

theorem count_nl (s : Bs) : Lib.countByte s 10 = nlCount s := by
  unfold Lib.countByte nlCount
  rw [List.count, List.countP_eq_length_filter]
set_option maxRecDepth 100000 in
set_option maxHeartbeats 2000000 in
theorem QcirAgain_any (s : Bs) (w : World) (hl : s.length ≤ 4611686018427387904) (hE : Env w) :
    Calls Tryz.prog 8 #[.string ⟨s.toArray⟩] w fun e w' => e = .returned (.bool true) ∧ Below w.heap.size w w' := by
  by_cases hbig : 8000 < s.length
  · have hbz : (8000 : Int) < (s.length : Int) := by omega
    clear hbig
    go_enter Tryz.func8, Tryz.ntmps8
    go_wp2_with fail
    refine (works_any w hE).mono ?_
    rintro e w1 ⟨rfl, hB1⟩
    go_wp2_with fail
    go_ret
    exact ⟨rfl, hB1⟩
  · have hbz : decide ((8000 : Int) < (s.length : Int)) = false := decide_eq_false (by omega)
    have hs8 : s.length ≤ 8000 := by omega
    have CR := Read_any s w hE hl
    have hrl := read_line s
    generalize hrp : readP s = rp at CR hrl
    obtain ⟨N, l, ec⟩ := rp
    simp only [] at hrl
    by_cases hec : ec = 0
    · subst hec
      obtain ⟨rfl, hM⟩ := read_may hrp
      obtain ⟨hT, hgl, hls⟩ := read_len hs8 hrp
      have HP : printP N = (textP N, 0) := by unfold printP; rw [if_pos hM, if_neg (by omega)]
      have HP := hid HP
      have HT := hid (read_text hM hT)
      have HM := hid hM
      clear hM hrp hbig hrl
      go_enter Tryz.func8, Tryz.ntmps8
      go_wp2_with fail
      refine CR.mono ?_
      rintro e w1 ⟨hB1, vn, rfl, hN⟩
      obtain ⟨Ap, cp, Ag, cg, rfl⟩ := net_parts hN
      obtain ⟨w2, hw2, -, -, hz2, hB2, q2⟩ := new_block w1 #[.slice Ap N.pre.length cp, .slice Ag N.gates.length cg, .int .i64 N.out] 40
      have hB02 := below_then hB1 hB1.size hB2
      have rows : ∀ W, Below w2.heap.size w2 W → W.cell? ⟨w1.heap.size, 0, none⟩ = some (.slice Ap N.pre.length cp) ∧ W.cell? ⟨w1.heap.size, 1, none⟩ = some (.slice Ag N.gates.length cg) ∧ W.cell? ⟨w1.heap.size, 2, none⟩ = some (.int .i64 N.out) := fun W hW =>
        ⟨cell_row (row_below q2 hW) rfl, cell_row (row_below q2 hW) rfl, cell_row (row_below q2 hW) rfl⟩
      have nets : ∀ W, Below w2.heap.size w2 W → NetAt W (.agg #[.slice Ap N.pre.length cp, .slice Ag N.gates.length cg, .int .i64 N.out]) N := fun W hW => hN.keep (keeps_below (below_then hB2 hB2.size hW))
      have hle2 : w.heap.size ≤ w2.heap.size := hB02.size
      have envs : ∀ W, Below w2.heap.size w2 W → Env W := fun W hW => hE.below (below_then hB02 hle2 hW) hE.size
      have fin : ∀ W, Below w2.heap.size w2 W → Below w.heap.size w W := fun W hW => below_then hB02 hle2 hW
      have R2 := Below.refl w2.heap.size w2
      obtain ⟨b0, b1, b2⟩ := rows w2 R2
      have CP : Calls Tryz.prog 23 #[.agg #[.slice Ap N.pre.length cp, .slice Ag N.gates.length cg, .int .i64 N.out]] w2 fun e w' => e = .returned (.tuple #[.string ⟨(textP N).toArray⟩, .int .i64 0]) ∧ Below w2.heap.size w2 w' := by
        have C := Print_any _ N w2 (nets w2 R2) (by omega) (envs w2 R2)
        rw [HP.out] at C
        exact C
      clear CR hN q2 hB1 hB2
      go_wp2_with fail
      refine CP.mono ?_
      rintro e w3 ⟨rfl, hB3⟩
      have CR2 := Read_any (textP N) w3 (envs w3 hB3) (by omega)
      rw [HT.out] at CR2
      clear b0 b1 b2 CP
      go_wp2_with fail
      refine CR2.mono ?_
      rintro e w5 ⟨hB5, vn, rfl, hNm⟩
      obtain ⟨Bp, dp, Bg, dg, rfl⟩ := net_parts hNm
      have hB15 := below_le hB3 (Nat.le_refl _) hB5
      obtain ⟨w6, hw6, -, -, hz6, hB6, q6⟩ := new_block w5 #[.slice Bp N.pre.length dp, .slice Bg N.gates.length dg, .int .i64 N.out] 40
      have hB16 := below_le hB15 (Nat.le_refl _) hB6
      obtain ⟨c0, c1, c2⟩ := rows w6 hB16
      have CM := MayR_any _ N w6 (nets w6 hB16) (by omega) (by omega)
      rw [HM.out] at CM
      clear CR2
      go_wp2_with fail
      refine CM.mono ?_
      rintro e w7 ⟨rfl, hB7⟩
      have hB17 := below_le hB16 (Nat.le_refl _) hB7
      have q7 := row_below q6 hB7
      obtain ⟨e0, e1, e2⟩ := rows w7 hB17
      have d0 := cell_row q7 (j := 0) (v := .slice Bp N.pre.length dp) rfl
      have d1 := cell_row q7 (j := 1) (v := .slice Bg N.gates.length dg) rfl
      have d2 := cell_row q7 (j := 2) (v := .int .i64 N.out) rfl
      have CS := SameR_any _ _ N N w7 (nets w7 hB17) (hNm.keep (keeps_below (below_then hB6 hB6.size hB7)))
      rw [decide_eq_true (rfl : N = N)] at CS
      clear CM c0 c1 c2 q6 q7 hNm hw6
      go_wp2_with fail
      refine CS.mono ?_
      rintro e w8 ⟨rfl, hB8⟩
      have hB18 := below_le hB17 (Nat.le_refl _) hB8
      clear e0 e1 e2 d0 d1 d2 CS
      go_wp2_with fail
      refine (works_any w8 (envs w8 hB18)).mono ?_
      rintro e w9 ⟨rfl, hB9⟩
      go_wp2_with fail
      go_ret
      exact ⟨rfl, fin w9 (below_le hB18 (Nat.le_refl _) hB9)⟩
    · have hN0 := hrl.2 hec
      have hll := hrl.1
      subst hN0
      have hz2 : (ec != 0) = true := bne_iff_ne.2 hec
      obtain ⟨z, hz⟩ : ∃ z, noNet.out = z := ⟨_, rfl⟩
      have hzz : (z == 0) = true := by rw [← hz]; rfl
      have hcn : nlCount s ≤ s.length := by unfold nlCount; exact List.length_filter_le _ _
      have hwr : IntKind.i64.wrap ((nlCount s : Int) + 1) = (nlCount s : Int) + 1 := IntWalk.i64_in _ (by omega)
      have hl0 : (0 : Int) ≤ (l : Int) := by omega
      have hl1 : (l : Int) ≤ (nlCount s : Int) + 1 := by omega
      have HRP := hid hrp
      clear hrp hec hrl hbig
      go_enter Tryz.func8, Tryz.ntmps8
      go_wp2_with fail
      refine CR.mono ?_
      rintro e w1 ⟨hB1, vn, rfl, hN⟩
      obtain ⟨Ap, cp, Ag, cg, rfl⟩ := net_parts hN
      have e1 : noNet.pre.length = 0 := rfl
      have e2 : noNet.gates.length = 0 := rfl
      rw [e1, e2, hz]
      obtain ⟨w2, hw2, -, -, hz3, hB2, q2⟩ := new_block w1 #[.slice Ap 0 cp, .slice Ag 0 cg, .int .i64 z] 40
      have c0 := cell_row q2 (j := 0) (v := .slice Ap 0 cp) rfl
      have c1 := cell_row q2 (j := 1) (v := .slice Ag 0 cg) rfl
      have c2 := cell_row q2 (j := 2) (v := .int .i64 z) rfl
      have hB02 := below_then hB1 hB1.size hB2
      have CC : Calls Tryz.prog 29 #[.string ⟨s.toArray⟩, .string ⟨#[10]⟩] w2 fun e w' => e = .returned (.int .i64 (nlCount s : Int)) ∧ w' = w2 := by
        have C := Tryz.strings_Count_one ⟨s.toArray⟩ 10 w2
        rw [count_nl] at C
        exact C
      clear e1 e2 hz hN CR
      go_wp2_with fail
      refine CC.mono ?_
      rintro e w3 ⟨rfl, rfl⟩
      go_wp2_with fail
      refine (works_any w3 (hE.below hB02 hE.size)).mono ?_
      rintro e w4 ⟨rfl, hB4⟩
      go_wp2_with fail
      go_ret
      exact ⟨rfl, below_then hB02 hB02.size hB4⟩
end Go.Proofs.YtnlobmepajakcaaGreatDoor
