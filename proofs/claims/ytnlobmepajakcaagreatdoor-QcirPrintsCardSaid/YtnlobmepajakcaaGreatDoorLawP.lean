/- What QcirPrints returns: true; the condition: each gate has at most 2^44 literals. -/
import Derived.Test.YtnlobmepajakcaaGreatDoorLawB
import Derived.Test.YtnlobmepajakcaaGreatDoorPrT
set_option linter.unusedVariables false
set_option linter.unusedSimpArgs false
namespace Go.Proofs.YtnlobmepajakcaaGreatDoor
open Go.RowKit Go.Shelf
attribute [local go_sem] Oper.semAt_some

set_option maxRecDepth 100000 in
set_option maxHeartbeats 2000000 in
theorem QcirPrints_any (v : Value) (N : PNet) (w : World) (h : NetAt w v N) (hb : ∀ g ∈ N.gates, g.ins.length ≤ 17592186044416) (hE : Env w) :
    Calls Tryz.prog 5 #[v] w fun e w' => e = .returned (.bool true) ∧ Below w.heap.size w w' := by
  obtain ⟨Ap, cp, Ag, cg, rfl⟩ := net_parts h
  obtain ⟨w1, hw1, -, -, hz1, hB1, q1⟩ := new_block w #[.slice Ap N.pre.length cp, .slice Ag N.gates.length cg, .int .i64 N.out] 40
  have rows : ∀ W, Below w1.heap.size w1 W → W.cell? ⟨w.heap.size, 0, none⟩ = some (.slice Ap N.pre.length cp) ∧ W.cell? ⟨w.heap.size, 1, none⟩ = some (.slice Ag N.gates.length cg) ∧ W.cell? ⟨w.heap.size, 2, none⟩ = some (.int .i64 N.out) := fun W hW =>
    ⟨cell_row (row_below q1 hW) rfl, cell_row (row_below q1 hW) rfl, cell_row (row_below q1 hW) rfl⟩
  have nets : ∀ W, Below w1.heap.size w1 W → NetAt W (.agg #[.slice Ap N.pre.length cp, .slice Ag N.gates.length cg, .int .i64 N.out]) N := fun W hW => h.keep (keeps_below (below_then hB1 hB1.size hW))
  have envs : ∀ W, Below w1.heap.size w1 W → Env W := fun W hW => hE.below (below_then hB1 hB1.size hW) hE.size
  have fin : ∀ W, Below w1.heap.size w1 W → Below w.heap.size w W := fun W hW => below_then hB1 hB1.size hW
  have R0 := Below.refl w1.heap.size w1
  have CG := great_any _ N w1 (nets w1 R0) hb
  obtain ⟨a0, a1, a2⟩ := rows w1 R0
  clear h q1 hB1
  cases hg : greatB N with
  | true =>
    rw [hg] at CG
    clear hg
    go_enter Tryz.func5, Tryz.ntmps5
    go_wp2_with fail
    refine CG.mono ?_
    rintro e w2 ⟨rfl, hB2⟩
    go_wp2_with fail
    refine (works_any w2 (envs w2 hB2)).mono ?_
    rintro e w3 ⟨rfl, hB3⟩
    go_wp2_with fail
    go_ret
    exact ⟨rfl, fin w3 (below_le hB2 (Nat.le_refl _) hB3)⟩
  | false =>
    rw [hg] at CG
    obtain ⟨hgl, hgs⟩ := great_no hg
    clear hg
    have HL := hid (And.intro hgl hgs)
    have CP0 : ∀ W, Below w1.heap.size w1 W → Calls Tryz.prog 23 #[.agg #[.slice Ap N.pre.length cp, .slice Ag N.gates.length cg, .int .i64 N.out]] W fun e w' => e = .returned (.tuple #[.string ⟨(printP N).1.toArray⟩, .int .i64 (printP N).2]) ∧ Below W.heap.size W w' := fun W hW => Print_any _ N W (nets W hW) (by omega) (envs W hW)
    have CQ0 : ∀ W, Below w1.heap.size w1 W → Calls Tryz.prog 27 #[.agg #[.slice Ap N.pre.length cp, .slice Ag N.gates.length cg, .int .i64 N.out]] W fun e w' => e = .returned (.tuple #[.string ⟨(printP N).1.toArray⟩, .int .i64 (printP N).2]) ∧ Below W.heap.size W w' := fun W hW => PrintR_any _ N W (nets W hW) hgl hgs
    generalize (⟨(printP N).1.toArray⟩ : ByteArray) = bs at CP0 CQ0
    generalize (printP N).2 = ec at CP0 CQ0
    go_enter Tryz.func5, Tryz.ntmps5
    go_wp2_with fail
    refine CG.mono ?_
    rintro e w2 ⟨rfl, hB2⟩
    obtain ⟨b0, b1, b2⟩ := rows w2 hB2
    clear a0 a1 a2 CG
    go_wp2_with fail
    refine (CP0 w2 hB2).mono ?_
    rintro e w3 ⟨rfl, hB3⟩
    have hB13 := below_le hB2 (Nat.le_refl _) hB3
    obtain ⟨c0, c1, c2⟩ := rows w3 hB13
    clear b0 b1 b2
    go_wp2_with fail
    refine (CQ0 w3 hB13).mono ?_
    rintro e w4 ⟨rfl, hB4⟩
    have hB14 := below_le hB13 (Nat.le_refl _) hB4
    clear c0 c1 c2
    go_wp2_with fail
    refine (works_any w4 (envs w4 hB14)).mono ?_
    rintro e w5 ⟨rfl, hB5⟩
    go_wp2_with fail
    go_ret
    exact ⟨rfl, fin w5 (below_le hB14 (Nat.le_refl _) hB5)⟩
end Go.Proofs.YtnlobmepajakcaaGreatDoor
