/- What QcirReads returns: true; the condition: texts have at most 2^62 bytes. -/
import Derived.Test.YtnlobmepajakcaaGreatDoorZWk
import Derived.Test.YtnlobmepajakcaaGreatDoorZSame
import Derived.Test.YtnlobmepajakcaaGreatDoorZRtM
set_option linter.unusedVariables false
set_option linter.unusedSimpArgs false
namespace Go.Proofs.YtnlobmepajakcaaGreatDoor
open Go.RowKit Go.Shelf
attribute [local go_sem] Oper.semAt_some

set_option maxRecDepth 100000 in
set_option maxHeartbeats 2000000 in
theorem QcirReads_any (s : Bs) (w : World) (hl : s.length ≤ 4611686018427387904) (hE : Env w) :
    Calls Tryz.prog 6 #[.string ⟨s.toArray⟩] w fun e w' => e = .returned (.bool true) ∧ Below w.heap.size w w' := by
  by_cases hbig : 8000 < s.length
  · have hbz : (8000 : Int) < (s.length : Int) := by omega
    clear hbig
    go_enter Tryz.func6, Tryz.ntmps6
    go_wp2_with fail
    refine (works_any w hE).mono ?_
    rintro e w1 ⟨rfl, hB1⟩
    go_wp2_with fail
    go_ret
    exact ⟨rfl, hB1⟩
  · have hbz : decide ((8000 : Int) < (s.length : Int)) = false := decide_eq_false (by omega)
    have hs8 : ¬ 4194304 < s.length := by omega
    have CR := Read_any s w hE hl
    have CS2 : ∀ W, Calls Tryz.prog 28 #[.string ⟨s.toArray⟩] W (ReadPost W (readP s)) := fun W => by
      have C := readR_main s W hs8
      rw [readR_eq] at C
      exact C
    generalize readP s = rp at CR CS2
    obtain ⟨N, l, ec⟩ := rp
    clear hbig hs8
    go_enter Tryz.func6, Tryz.ntmps6
    go_wp2_with fail
    refine CR.mono ?_
    rintro e w1 ⟨hB1, vn, rfl, hN⟩
    obtain ⟨Ap, cp, Ag, cg, rfl⟩ := net_parts hN
    obtain ⟨w2, hw2, -, -, hz2, hB2, q2⟩ := new_block w1 #[.slice Ap N.pre.length cp, .slice Ag N.gates.length cg, .int .i64 N.out] 40
    have hB02 := below_then hB1 hB1.size hB2
    have hle2 : w.heap.size ≤ w2.heap.size := hB02.size
    have CR2 := CS2 w2
    clear CS2 CR
    go_wp2_with fail
    refine CR2.mono ?_
    rintro e w3 ⟨hB3, vm, rfl, hM⟩
    obtain ⟨Bp, dp, Bg, dg, rfl⟩ := net_parts hM
    obtain ⟨w4, hw4, -, -, hz4, hB4, q4⟩ := new_block w3 #[.slice Bp N.pre.length dp, .slice Bg N.gates.length dg, .int .i64 N.out] 40
    have hB24 := below_then hB3 hB3.size hB4
    have hB04 := below_then hB02 hle2 hB24
    have q24 := row_below q2 hB24
    have a0 := cell_row q24 (j := 0) (v := .slice Ap N.pre.length cp) rfl
    have a1 := cell_row q24 (j := 1) (v := .slice Ag N.gates.length cg) rfl
    have a2 := cell_row q24 (j := 2) (v := .int .i64 N.out) rfl
    have b0 := cell_row q4 (j := 0) (v := .slice Bp N.pre.length dp) rfl
    have b1 := cell_row q4 (j := 1) (v := .slice Bg N.gates.length dg) rfl
    have b2 := cell_row q4 (j := 2) (v := .int .i64 N.out) rfl
    have CS := SameR_any _ _ N N w4 (hN.keep (keeps_below (below_then hB2 hB2.size hB24))) (hM.keep (keeps_below hB4))
    rw [decide_eq_true (rfl : N = N)] at CS
    clear CR2
    go_wp2_with fail
    refine CS.mono ?_
    rintro e w5 ⟨rfl, hB5⟩
    have hB05 := below_then hB04 hB04.size hB5
    clear CS
    go_wp2_with fail
    refine (works_any w5 (hE.below hB05 hE.size)).mono ?_
    rintro e w6 ⟨rfl, hB6⟩
    go_wp2_with fail
    go_ret
    exact ⟨rfl, below_then hB05 hB05.size hB6⟩
end Go.Proofs.YtnlobmepajakcaaGreatDoor
