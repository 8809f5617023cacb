/- What the law CircValues does: it returns true; the conditions: the arguments read as data, each gate has at most 2^44 literals. -/
import Derived.Test.YtnlobmepajakcaaVal
import Derived.Test.YtnlobmepajakcaaGreat
import Derived.Test.YtnlobmepajakcaaOpen
set_option linter.unusedVariables false
set_option linter.unusedSimpArgs false
namespace Go.Proofs.Ytnlobmepajakcaa
open Go.RowKit Go.Shelf

theorem nets_row1 {w : World} {b : Nat} {vp vg : Value} {N : PNet} (hq : w.heap[b]? = some (.cells #[vp, vg, .int .i64 N.out] 25 (0, 0))) (hp : BlocksAt w vp N.pre) (hg : GatesAt w vg N.gates) : NetsRow w b [N] := by
  intro j M hj
  match j, hj with
  | 0, hj =>
    cases hj
    exact ⟨vp, vg, cell_row hq rfl, cell_row hq rfl, cell_row hq rfl, hp, hg⟩
  | j + 1, hj => simp at hj
theorem many_no {gs : List PGate} (h : manyP gs = false) : gs.length ≤ 300 ∧ litSum gs ≤ 1500 := by
  unfold manyP at h
  simp at h
  exact h
set_option maxRecDepth 100000 in
set_option maxHeartbeats 4000000 in
theorem CircValues_any (v va : Value) (N : PNet) (a : List Int) (w : World) (h : NetAt w v N) (ha : IntsAt w va a) (hs : ∀ g ∈ N.gates, ShortG g) :
    Calls Try.prog 5 #[v, va] w fun e w' => e = .returned (.bool true) ∧ Below w.heap.size w w' := by
  have hN := h
  obtain ⟨vp, vg, rfl, ho, hp, hgt⟩ := h
  obtain ⟨Ap, cp, rfl, hlp, hcp⟩ := hp.form
  obtain ⟨Ag, cg, rfl, hlg, hcg⟩ := hgt.form
  obtain ⟨Aa, ca, rfl, hla, hca⟩ := ha.form
  obtain ⟨w1, hw1, -, -, z1, hB1, q1⟩ := new_block w #[.slice Ap N.pre.length cp, .slice Ag N.gates.length cg, .int .i64 N.out] 25
  obtain ⟨w2, hw2, -, -, z2, hB12, q2⟩ := new_block w1 #[.slice Ap N.pre.length cp, .slice Ag N.gates.length cg, .int .i64 N.out] 25
  have hB02 := below_then hB1 hB1.size hB12
  have rows : ∀ W, Below w2.heap.size w2 W → W.cell? ⟨w.heap.size, 0, none⟩ = some (.slice Ap N.pre.length cp) ∧ W.cell? ⟨w.heap.size, 1, none⟩ = some (.slice Ag N.gates.length cg) ∧ W.cell? ⟨w.heap.size, 2, none⟩ = some (.int .i64 N.out) := fun W hW =>
    ⟨cell_row (row_below (row_below q1 hB12) hW) rfl, cell_row (row_below (row_below q1 hB12) hW) rfl, cell_row (row_below (row_below q1 hB12) hW) rfl⟩
  have a0 := cell_row q1 (j := 0) (v := .slice Ap N.pre.length cp) rfl
  have a1 := cell_row q1 (j := 1) (v := .slice Ag N.gates.length cg) rfl
  have a2 := cell_row q1 (j := 2) (v := .int .i64 N.out) rfl
  have CG := great_any w1.heap.size 1 [N] w2 (nets_row1 q2 (hp.keep (keeps_below hB02)) (hgt.keep (keeps_below hB02))) rfl (by omega) (by intro M hM; rw [List.mem_singleton] at hM; subst hM; exact hs)
  have eG : ([N].any fun N => manyP N.gates) = manyP N.gates := by simp
  rw [eG, z1] at CG
  have CW := works_any
  have HQ := hid (And.intro q1 q2)
  clear eG q1 q2
  cases hm : manyP N.gates with
  | true =>
    rw [hm] at CG
    clear hm
    go_enter Try.func5, Try.ntmps5
    go_wp2_with (first | (go_at_call 11; refine CG.mono ?_; rintro e w3 ⟨rfl, hB3⟩) | (go_at_call 12; refine (CW _).mono ?_; rintro e w4 ⟨rfl, hB4⟩))
    go_ret
    exact ⟨rfl, below_then hB02 hB02.size (below_then hB3 hB3.size hB4)⟩
  | false =>
    rw [hm] at CG
    obtain ⟨hgl, hls⟩ := many_no hm
    clear hm
    by_cases hlen : 5000 < a.length
    · have hz : (5000 : Int) < (a.length : Int) := by omega
      clear hlen
      go_enter Try.func5, Try.ntmps5
      go_wp2_with (first | (go_at_call 11; refine CG.mono ?_; rintro e w3 ⟨rfl, hB3⟩) | (go_at_call 12; refine (CW _).mono ?_; rintro e w4 ⟨rfl, hB4⟩))
      go_ret
      exact ⟨rfl, below_then hB02 hB02.size (below_then hB3 hB3.size hB4)⟩
    · have hz : ¬ (5000 : Int) < (a.length : Int) := by omega
      clear hlen
      have atN : ∀ W, Below w2.heap.size w2 W → NetAt W (.agg #[.slice Ap N.pre.length cp, .slice Ag N.gates.length cg, .int .i64 N.out]) N := fun W hW => hN.keep (keeps_below (below_then hB02 hB02.size hW))
      have atA : ∀ W, Below w2.heap.size w2 W → IntsAt W (.slice Aa a.length ca) a := fun W hW => ha.keep (keeps_below (below_then hB02 hB02.size hW))
      have C21 := fun W hW => Eval_any _ (.slice Aa a.length ca) N a W (atN W hW) (atA W hW) (by omega)
      have C24 := fun W hW => EvalR_any _ (.slice Aa a.length ca) N a W (atN W hW) (atA W hW) hls hgl
      have C25 := fun W hW => Values_any _ (.slice Aa a.length ca) N a W (atN W hW) (atA W hW) (by omega) (by omega)
      have C26 := fun W hW => ValuesR_any _ (.slice Aa a.length ca) N a W (atN W hW) (atA W hW) hls hgl
      clear atN atA hgl hls
      go_enter Try.func5, Try.ntmps5
      go_wp2_with (go_at_call 11; refine CG.mono ?_; rintro e w3 ⟨rfl, hB3⟩; obtain ⟨b0, b1, b2⟩ := rows _ hB3)
      refine (C21 _ hB3).mono ?_
      rintro e w4 ⟨rfl, hB34⟩
      have hB4 := below_then hB3 hB3.size hB34
      clear b0 b1 b2
      obtain ⟨b0, b1, b2⟩ := rows _ hB4
      clear hB3 hB34 C21 CG a0 a1 a2
      go_wp2_with fail
      refine (C24 _ hB4).mono ?_
      rintro e w5 ⟨rfl, hB45⟩
      have hB5 := below_then hB4 hB4.size hB45
      clear b0 b1 b2
      obtain ⟨b0, b1, b2⟩ := rows _ hB5
      clear hB4 hB45 C24
      go_wp2_with fail
      refine (C25 _ hB5).mono ?_
      rintro e w6 ⟨hB56, v6, rfl, hv6⟩
      have hB6 := below_then hB5 hB5.size hB56
      clear b0 b1 b2
      obtain ⟨b0, b1, b2⟩ := rows _ hB6
      clear hB5 hB56 C25
      go_wp2_with fail
      refine (C26 _ hB6).mono ?_
      rintro e w7 ⟨hB67, v7, rfl, hv7⟩
      have hB7 := below_then hB6 hB6.size hB67
      have C27 := fun W (hW : Below w7.heap.size w7 W) => bools_any v6 v7 _ _ W (hv6.keep (keeps_below (below_then hB67 hB67.size hW))) (hv7.keep (keeps_below hW))
      clear b0 b1 b2 hB6 hB67 C26 hv6 hv7
      have e27 : decide ((valuesP N a).1 = (valuesP N a).1) = true := by simp
      rw [e27] at C27
      have eb : ((evalP N a).1 == (evalP N a).1) = true := by simp
      clear e27
      go_wp2_with (first | (go_at_call 27; refine (C27 _ (Below.refl _ _)).mono ?_; rintro e w8 ⟨rfl, hB8⟩) | (go_at_call 12; refine (CW _).mono ?_; rintro e w9 ⟨rfl, hB9⟩))
      go_ret
      exact ⟨rfl, below_then hB02 hB02.size (below_then hB7 hB7.size (below_then hB8 hB8.size hB9))⟩
end Go.Proofs.Ytnlobmepajakcaa
