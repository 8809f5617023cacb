/- What a literal is worth does not depend on variables outside its support; the condition: the net is valid and has the literal. -/
import Derived.Test.YtnlobmepajakcaaSemM
import Derived.Test.YtnlobmepajakcaaSemO
set_option linter.unusedVariables false
set_option linter.unusedSimpArgs false
namespace Go.Proofs.Ytnlobmepajakcaa
open Go.RowKit Go.Shelf

theorem may_lit {N : PNet} (hM : mayP N = true) (lit : Int) : mayP ⟨N.pre, N.gates, lit⟩ = usedG (preS N) N.gates (absN lit) := by
  obtain ⟨hp, hl, S, hS, ho⟩ := mayP_pre hM
  unfold mayP mayS
  simp only
  rw [hp]
  simp only
  rw [if_neg (by omega), hS]
  simp only
  rw [may_used _ hS]
def outside (b l : List Int) : List Int := b.filter fun x => !decide (absR x ∈ l)
theorem outside_among {S : Nat → Bool} {b : List Int} (h : Among S b) (l : List Int) : Among S (outside b l) :=
  ⟨h.srt.filter _, fun x hx => h.mem x (List.mem_filter.1 hx).1⟩
theorem depends {N : PNet} (hM : mayP N = true) {lit : Int} (hl : usedG (preS N) N.gates (absN lit) = true) {a b : List Int} (ha : Among (preS N) a) (hb : Among (preS N) b) :
    evalP ⟨N.pre, N.gates, lit⟩ (overP a (outside b (supportP N lit).1)) = evalP ⟨N.pre, N.gates, lit⟩ a ∧ (evalP ⟨N.pre, N.gates, lit⟩ a).2 = 0 := by
  have hR := preS_R (mayP_some hM)
  have hM2 : mayP ⟨N.pre, N.gates, lit⟩ = true := by rw [may_lit hM]; exact hl
  have hs : (supportP N lit).1 = supL (reachT (upd noS (absN lit) true) N.gates.reverse) (preS N) := by
    unfold supportP
    rw [if_neg (by rw [hM]; simp), if_neg (by rw [hl]; simp)]
  rw [hs]
  obtain ⟨T, hT⟩ : ∃ T, reachT (upd noS (absN lit) true) N.gates.reverse = T := ⟨_, rfl⟩
  rw [hT]
  have hc := outside_among hb (supL T (preS N))
  have hov := ha.over hc
  have e1 := normed ha hR _ hM2
  have e2 := normed hov hR _ hM2
  refine ⟨?_, by rw [e1]⟩
  rw [e1, e2]
  congr 1
  have key : ∀ i, T i = true → valsA (preS N) noS (overP a (outside b (supL T (preS N)))) i = valsA (preS N) noS a i := fun i hi => by
    by_cases hr : 1 ≤ i ∧ i ≤ 65536
    · obtain ⟨r1, r2⟩ := hr
      rw [vals_lit _ hov.srt (hov.rng hR) _ i r1 r2, vals_lit _ ha.srt (ha.rng hR) _ i r1 r2]
      by_cases hS : preS N i = true
      · have hno : ∀ z : Int, absN z = i → (∀ y ∈ outside b (supL T (preS N)), absR y ≠ absR z) := fun z hz y hy e => by
          have hy1 := hc.rng hR y hy
          have hy2 := (List.mem_filter.1 hy).2
          rw [absR_eq hy1, absR_eq (by rw [hz]; exact r1), hz] at e
          rw [absR_eq hy1, e] at hy2
          have : decide ((i : Int) ∈ supL T (preS N)) = true := decide_eq_true (supL_mem.2 ⟨i, rfl, r2, hi, hS⟩)
          rw [this] at hy2
          cases hy2
        have k1 := hno (i : Int) (absN_nat r1 r2)
        have k2 := hno (-(i : Int)) (by rw [absN_neg]; exact absN_nat r1 r2)
        have q1 : (i : Int) ∈ overP a (outside b (supL T (preS N))) ↔ (i : Int) ∈ a := by
          rw [over_mem ha.srt hc.srt]
          exact ⟨fun h => h.elim (fun h => absurd rfl (k1 _ h)) (·.2), fun h => .inr ⟨k1, h⟩⟩
        have q2 : -(i : Int) ∈ overP a (outside b (supL T (preS N))) ↔ -(i : Int) ∈ a := by
          rw [over_mem ha.srt hc.srt]
          exact ⟨fun h => h.elim (fun h => absurd rfl (k2 _ h)) (·.2), fun h => .inr ⟨k2, h⟩⟩
        simp only [q1, q2]
      · have hn : ∀ l : List Int, Among (preS N) l → (i : Int) ∉ l ∧ -(i : Int) ∉ l := fun l hl => by
          refine ⟨fun h => ?_, fun h => ?_⟩
          · have := hl.mem _ h; rw [absN_nat r1 r2] at this; exact hS this
          · have := hl.mem _ h; rw [absN_neg, absN_nat r1 r2] at this; exact hS this
        rw [if_neg (hn _ hov).1, if_neg (hn _ hov).2, if_neg (hn _ ha).1, if_neg (hn _ ha).2]
    · rw [valsA_not, valsA_not]
      · intro y hy e; exact hr (e ▸ hR _ (ha.mem y hy))
      · intro y hy e; exact hr (e ▸ hR _ (hov.mem y hy))
  have hag := reach_agree N.gates.reverse (upd noS (absN lit) true) (valsA (preS N) noS (overP a (outside b (supL T (preS N))))) (valsA (preS N) noS a) (by rw [hT]; exact key) (absN lit) (by unfold upd; rw [if_pos rfl])
  rw [List.reverse_reverse] at hag
  show (valsG (valsA (preS N) noS (overP a (outside b (supL T (preS N))))) N.gates (absN lit) == _) = (valsG (valsA (preS N) noS a) N.gates (absN lit) == _)
  rw [hag]
end Go.Proofs.Ytnlobmepajakcaa
