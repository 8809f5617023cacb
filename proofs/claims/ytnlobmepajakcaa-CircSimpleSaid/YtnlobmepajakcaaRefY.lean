/- What the reference's Simple does, from what its simple does; the conditions: what it is given reads as data, with at most 300 gates and 1,500 literals. -/
import Derived.Test.YtnlobmepajakcaaRefM
import Derived.Test.YtnlobmepajakcaaCof
set_option linter.unusedVariables false
set_option linter.unusedSimpArgs false
namespace Go.Proofs.Ytnlobmepajakcaa
open Go.RowKit Go.Shelf

set_option maxRecDepth 100000 in
set_option maxHeartbeats 2000000 in
theorem SimpleR_of (v : Value) (N : PNet) (w : World) (h : NetAt w v N) (hls : litSum N.gates ≤ 1500) (hgl : N.gates.length ≤ 300)
    (H40 : mayP N = true → ∀ W, NetAt W v N → Calls Try.prog 40 #[v, .slice none 0 0] W fun e w' => Below W.heap.size W w' ∧ ∃ v', e = .returned v' ∧ NetF W.heap.size w' v' (simpleP 65537 N []))
    (hcof : mayP N = true → cofactorP N [] = (simpleP 65537 N [], 0)) : Calls Try.prog 14 #[v] w (CofPost w (cofactorP N [])) := by
  have hN := h
  obtain ⟨vp, vg, rfl, ho, hp, hgt⟩ := h
  obtain ⟨Ap, cp, rfl, hlp, hcp⟩ := hp.form
  obtain ⟨Ag, cg, rfl, hlg, hcg⟩ := hgt.form
  obtain ⟨w1, hw1, hc1, -, hz1, hB1, hrow1⟩ := new_block w #[.slice Ap N.pre.length cp, .slice Ag N.gates.length cg, .int .i64 N.out] 25
  obtain ⟨w2, hw2, hc2, hf2, hz2, hB2, hrow2⟩ := new_block w1 #[.slice none 0 0, .slice none 0 0, .int .i64 0] 25
  have hB02 := below_then hB1 hB1.size hB2
  have n0 : w2.cell? ⟨w.heap.size, 0, none⟩ = some (.slice Ap N.pre.length cp) := keeps_below hB2 _ _ (hc1 0 _ rfl)
  have n1 : w2.cell? ⟨w.heap.size, 1, none⟩ = some (.slice Ag N.gates.length cg) := keeps_below hB2 _ _ (hc1 1 _ rfl)
  have n2 : w2.cell? ⟨w.heap.size, 2, none⟩ = some (.int .i64 N.out) := keeps_below hB2 _ _ (hc1 2 _ rfl)
  rw [hz1] at hz2 hrow2
  have CM := MayR_any _ N w2 (hN.keep (keeps_below hB02)) hls hgl
  clear hc1 hc2 hf2
  cases hm : mayP N with
  | false =>
    rw [hm] at CM
    have e : cofactorP N [] = (noNet, 2) := by unfold cofactorP; rw [hm]; rfl
    rw [e]
    clear hm e H40 hcof
    go_enter Try.func14, Try.ntmps14
    go_wp2_with fail
    refine CM.mono ?_
    rintro e w3 ⟨rfl, hB3⟩
    have hB03 := below_then hB02 hB02.size hB3
    obtain ⟨f0, c0, f1, c1', f2, c2', r4, g4⟩ := put25 (row_below hrow2 hB3) (.slice none 0 0) (.slice none 0 0) (.int .i64 0)
    have h3s := hB3.size
    go_wp2_with fail
    exact bodyPost_ret (results_row_tmp (p := 2) (u := 3) (ty := 25) rfl _ _ (w.heap.size + 1) 25 _ (0, 0) _ rfl r4 Try.underlying25 rfl (by kernel_rfl)) rfl ⟨hB03.grown g4 hB03.size (fun r e => by injection e with e; omega), _, rfl, net_noF _ _⟩
  | true =>
    rw [hm] at CM
    rw [hcof hm]
    have H := H40 hm
    generalize simpleP 65537 N [] = S at H ⊢
    clear hm H40 hcof
    go_enter Try.func14, Try.ntmps14
    go_wp2_with fail
    refine CM.mono ?_
    rintro e w3 ⟨rfl, hB3⟩
    have hB03 := below_then hB02 hB02.size hB3
    have C := H w3 (hN.keep (keeps_below hB03))
    have m0 := keeps_below hB3 _ _ n0
    have m1 := keeps_below hB3 _ _ n1
    have m2 := keeps_below hB3 _ _ n2
    clear n0 n1 n2 CM H
    go_wp2_with fail
    refine C.mono ?_
    rintro e w4 ⟨hB4, v4, rfl, hF4⟩
    obtain ⟨up, ug, rfl, hu, hu1, hu2⟩ := hF4.at
    obtain ⟨A1, c1, rfl, -, -⟩ := hu1.form
    obtain ⟨A2, c2, rfl, -, -⟩ := hu2.form
    have hB04 := below_then hB03 hB03.size hB4
    obtain ⟨f0, c0, f1, c1', f2, c2', r4, g4⟩ := put25 (row_below (row_below hrow2 hB3) hB4) (.slice A1 S.pre.length c1) (.slice A2 S.gates.length c2) (.int .i64 S.out)
    have h4s := g4.size
    have h3s := hB4.size
    have h2s := hB3.size
    clear hu1 hu2 m0 m1 m2 C
    go_wp2_with fail
    exact bodyPost_ret (results_row_tmp (p := 2) (u := 3) (ty := 25) rfl _ _ (w.heap.size + 1) 25 _ (0, 0) _ rfl r4 Try.underlying25 rfl (by kernel_rfl)) rfl ⟨hB04.grown g4 hB04.size (fun r e => by injection e with e; omega), _, rfl,
      fun wF hsF hkF => hF4 wF (by omega) (fun k h1 h2 => (hkF k (by omega) (by omega)).trans (g4.block k h2 (by intro e; injection e with e; omega)))⟩
end Go.Proofs.Ytnlobmepajakcaa
