/- What the law CircOrders does: it returns true; the conditions: the arguments read as data, each gate has at most 2^44 literals. -/
import Derived.Test.YtnlobmepajakcaaRefO
import Derived.Test.YtnlobmepajakcaaGreat
import Derived.Test.YtnlobmepajakcaaOpen
import Derived.Test.YtnlobmepajakcaaSame
set_option linter.unusedVariables false
set_option linter.unusedSimpArgs false
namespace Go.Proofs.Ytnlobmepajakcaa
open Go.RowKit Go.Shelf

theorem many_low {gs : List PGate} (h : manyP gs = false) : gs.length ≤ 300 ∧ litSum gs ≤ 1500 := by
  unfold manyP at h
  simp at h
  exact h
set_option maxRecDepth 100000 in
set_option maxHeartbeats 2000000 in
theorem CircOrders_any (va vg : Value) (ins : List Int) (gs : List PGate) (w : World) (ha : IntsAt w va ins) (hg : GatesAt w vg gs) (hs : ∀ g ∈ gs, ShortG g) :
    Calls Try.prog 7 #[va, vg] w fun e w' => e = .returned (.bool true) ∧ Below w.heap.size w w' := by
  have hm0 := many_any vg gs w hg hs
  have CW := works_any
  obtain ⟨Aa, ca, rfl, hla, hca⟩ := ha.form
  obtain ⟨Ag, cg, rfl, hlg, hcg⟩ := hg.form
  by_cases hlen : 5000 < ins.length
  · have hz : (5000 : Int) < (ins.length : Int) := by omega
    clear hlen hm0
    go_enter Try.func7, Try.ntmps7
    go_wp2_with (go_at_call 12; refine (CW _).mono ?_; rintro e w1 ⟨rfl, hB1⟩)
    go_ret
    exact ⟨rfl, hB1⟩
  · have hz : ¬ (5000 : Int) < (ins.length : Int) := by omega
    clear hlen
    cases hm : manyP gs with
    | true =>
      rw [hm] at hm0
      clear hm
      go_enter Try.func7, Try.ntmps7
      go_wp2_with (first | (go_at_call 31; refine hm0.mono ?_; rintro e w1 ⟨rfl, hB1⟩) | (go_at_call 12; refine (CW _).mono ?_; rintro e w2 ⟨rfl, hB2⟩))
      go_ret
      exact ⟨rfl, below_then hB1 hB1.size hB2⟩
    | false =>
      rw [hm] at hm0
      obtain ⟨hgl, hls⟩ := many_low hm
      clear hm
      have C32 := fun W (hW : Below w.heap.size w W) => Order_any (.slice Aa ins.length ca) (.slice Ag gs.length cg) ins gs W (ha.keep (keeps_below hW)) (hg.keep (keeps_below hW)) (by omega) (by omega)
      have C33 := fun W (hW : Below w.heap.size w W) => OrderR_any (.slice Aa ins.length ca) (.slice Ag gs.length cg) ins gs W (ha.keep (keeps_below hW)) (hg.keep (keeps_below hW)) hls hgl
      clear hgl hls
      generalize orderP ins gs = r at C32 C33
      go_enter Try.func7, Try.ntmps7
      go_wp2_with (go_at_call 31; refine hm0.mono ?_; rintro e w1 ⟨rfl, hB1⟩)
      refine (C32 _ hB1).mono ?_
      rintro e w2 ⟨hB12, v2, rfl, hv2, -⟩
      have hB2 := below_then hB1 hB1.size hB12
      clear hB1 hB12 C32 hm0
      obtain ⟨A2, c2, rfl, -, -⟩ := hv2.form
      go_wp2_with fail
      refine (C33 _ hB2).mono ?_
      rintro e w3 ⟨hB23, v3, rfl, hv3, -⟩
      have hB3 := below_then hB2 hB2.size hB23
      obtain ⟨A3, c3, rfl, -, -⟩ := hv3.form
      have C34 := SameGates_any _ _ _ _ w3 (hv2.keep (keeps_below hB23)) hv3
      have e34 : decide (r.1 = r.1) = true := by simp
      rw [e34] at C34
      clear e34 hB2 hB23 C33
      have hr : (r.2 == r.2) = true := by simp
      go_wp2_with (first | (go_at_call 34; refine C34.mono ?_; rintro e w4 ⟨rfl, hB4⟩) | (go_at_call 12; refine (CW _).mono ?_; rintro e w5 ⟨rfl, hB5⟩))
      go_ret
      exact ⟨rfl, below_then hB3 hB3.size (below_then hB4 hB4.size hB5)⟩
end Go.Proofs.Ytnlobmepajakcaa
