/- What the reference's Eval does; the conditions: the net reads as data, with at most 300 gates and 1,500 literals. -/
import Derived.Test.YtnlobmepajakcaaRefAll
set_option linter.unusedVariables false
set_option linter.unusedSimpArgs false
namespace Go.Proofs.Ytnlobmepajakcaa
open Go.RowKit Go.Shelf

set_option maxHeartbeats 2000000 in
theorem EvalR_any (v va : Value) (N : PNet) (a : List Int) (w : World) (h : NetAt w v N) (ha : IntsAt w va a) (hl : litSum N.gates ≤ 1500) (hgl : N.gates.length ≤ 300) :
    Calls Try.prog 24 #[v, va] w fun e w' => e = .returned (.tuple #[.bool (evalP N a).1, .int .i64 (evalP N a).2]) ∧ Below w.heap.size w w' := by
  have hN := h
  obtain ⟨vp, vg, rfl, ho, hp, hgt⟩ := h
  obtain ⟨Ap, cp, rfl, hlp, hcp⟩ := hp.form
  obtain ⟨Ag, cg, rfl, hlg, hcg⟩ := hgt.form
  obtain ⟨Aa, ca, rfl, hla, hca⟩ := ha.form
  obtain ⟨w1, hw1, -, -, z1, hB1, q1⟩ := new_block w #[.slice Ap N.pre.length cp, .slice Ag N.gates.length cg, .int .i64 N.out] 25
  have rows : ∀ W, Below w1.heap.size w1 W → W.cell? ⟨w.heap.size, 0, none⟩ = some (.slice Ap N.pre.length cp) ∧ W.cell? ⟨w.heap.size, 1, none⟩ = some (.slice Ag N.gates.length cg) ∧ W.cell? ⟨w.heap.size, 2, none⟩ = some (.int .i64 N.out) := fun W hW =>
    ⟨cell_row (row_below q1 hW) rfl, cell_row (row_below q1 hW) rfl, cell_row (row_below q1 hW) rfl⟩
  have CM := MayR_any _ N w1 (hN.keep (keeps_below hB1)) hl hgl
  have CN := fun W (hW : Below w1.heap.size w1 W) => NormalR_any (.slice Aa a.length ca) a W (ha.keep (keeps_below (below_then hB1 hB1.size hW)))
  obtain ⟨a0, a1, a2⟩ := rows w1 (Below.refl _ _)
  go_enter Try.func24, Try.ntmps24
  cases hm : mayP N with
  | false =>
    rw [hm] at CM
    have e : evalP N a = (false, 2) := by unfold evalP; rw [hm]; rfl
    rw [e]
    clear e hm
    go_wp2_with (go_at_call 18; refine CM.mono ?_; rintro e w2 ⟨rfl, hB2⟩)
    go_ret2
    exact ⟨rfl, below_then hB1 hB1.size hB2⟩
  | true =>
    rw [hm] at CM
    have HM := hid hm
    clear hm
    cases hn : normFrom 0 a with
    | false =>
      rw [hn] at CN
      have e : evalP N a = (false, 2) := by unfold evalP; rw [HM.out, hn]; rfl
      rw [e]
      clear e hn
      go_wp2_with (first | (go_at_call 18; refine CM.mono ?_; rintro e w2 ⟨rfl, hB2⟩) | (go_at_call 47; refine (CN _ hB2).mono ?_; rintro e w3 ⟨rfl, hB3⟩))
      go_ret2
      exact ⟨rfl, below_then hB1 hB1.size (below_then hB2 hB2.size hB3)⟩
    | true =>
      rw [hn] at CN
      have HN := hid hn
      have e : evalP N a = (holdsV (valsP N a) N.out, 0) := by unfold evalP; rw [HM.out, hn]; rfl
      rw [e]
      clear e hn
      have hlo := (may_lits HM.out).2
      go_wp2_with (first | (go_at_call 18; refine CM.mono ?_; rintro e w2 ⟨rfl, hB2⟩) | (go_at_call 47; refine (CN _ hB2).mono ?_; rintro e w3 ⟨rfl, hB3⟩))
      have hB13 : Below w1.heap.size w1 w3 := below_then hB2 hB2.size hB3
      have KS : ∀ W, Below w1.heap.size w1 W → (Below w1.heap.size w1 W ∧ W.cell? ⟨w.heap.size, 0, none⟩ = some (.slice Ap N.pre.length cp) ∧ W.cell? ⟨w.heap.size, 1, none⟩ = some (.slice Ag N.gates.length cg) ∧ W.cell? ⟨w.heap.size, 2, none⟩ = some (.int .i64 N.out)) := fun W hW => ⟨hW, rows W hW⟩
      have CA := fun W (hW : Below w1.heap.size w1 W) => allR_any _ (.slice Aa a.length ca) N a W (hN.keep (keeps_below (below_then hB1 hB1.size hW))) (ha.keep (keeps_below (below_then hB1 hB1.size hW))) HM.out HN.out
      have hd0 : Below w1.heap.size w1 w3.drew := hB13.drew
      clear CM CN a0 a1 a2 hB2 hB3
      go_region_held3 (fun w' => Below w1.heap.size w1 w' ∧ w'.cell? ⟨w.heap.size, 0, none⟩ = some (.slice Ap N.pre.length cp) ∧ w'.cell? ⟨w.heap.size, 1, none⟩ = some (.slice Ag N.gates.length cg) ∧ w'.cell? ⟨w.heap.size, 2, none⟩ = some (.int .i64 N.out)) (first | exact KS _ hd0 | exact KS _ (by assumption))
        (first | (go_at_call 64; refine (CA _ hd0).mono ?_; rintro e w4 ⟨b, rfl, hV4, hB4⟩; have hB14 := below_then hd0 hd0.size hB4; have CH := holdsR_any b 4 (valsP N a) N.out w4 hV4 hlo) | (go_at_call 63; refine CH.mono ?_; rintro e w5 ⟨rfl, rfl⟩))
      all_goals (go_wp2_with fail; go_ret2; exact ⟨rfl, below_then hB1 hB1.size (by assumption)⟩)
end Go.Proofs.Ytnlobmepajakcaa
