/- What the reference's meaning does; the condition: the gate has its shape, the literals' meanings lie within 1,000,000 and are not 0. -/
import Derived.Test.YtnlobmepajakcaaRefN
set_option linter.unusedVariables false
set_option linter.unusedSimpArgs false
namespace Go.Proofs.Ytnlobmepajakcaa
open Go.RowKit Go.Shelf

theorem meaning_any (x kind : Int) (ls : List Int) (Ag : Option Addr) (ng cg : Nat) (v0 : Value) (w : World) (h : IntsAt w v0 ls) (hls : ∀ y ∈ ls, -1000000 ≤ y ∧ y ≤ 1000000) (hz : ∀ y ∈ ls, y ≠ 0) (hn : ls.length ≤ 1099511627776) (hk : shapedB kind ls.length = true) :
    Calls Try.prog 84 #[.agg #[.int .i64 x, .int .u8 kind, .slice Ag ng cg], v0] w (MeanPost w x v0 (simplP 1000000 kind ls).1 (simplP 1000000 kind ls).2.1 (simplP 1000000 kind ls).2.2) := by
  unfold shapedB at hk
  unfold simplP
  by_cases h1 : kind = 1
  · subst h1
    exact meaning_and x ls Ag ng cg v0 w h hls hn
  · by_cases h2 : kind = 2
    · subst h2
      exact meaning_or x ls Ag ng cg v0 w h hls hn
    · by_cases h3 : kind = 3
      · subst h3
        simp only [if_neg h1, if_neg h2, if_true, decide_eq_true_eq] at hk
        match ls, hk, h, hls, hz with
        | [a, b], _, h, hls, hz =>
          have ha := hls a (by simp)
          have hb := hls b (by simp)
          have za := hz a (by simp)
          have zb := hz b (by simp)
          simp only [if_true]
          by_cases g1 : a = -1000000
          · rw [if_pos (.inl g1)]
            have e : exclP 1000000 a b = b := by unfold exclP; rw [if_pos g1]
            rw [e]; exact meaning_xor1 x a b Ag ng cg v0 w h ha za hb zb (bt g1)
          · by_cases g2 : a = 1000000
            · rw [if_pos (.inr (.inl g2))]
              have e : exclP 1000000 a b = -b := by unfold exclP; rw [if_neg g1, if_pos g2]
              rw [e]; exact meaning_xor2 x a b Ag ng cg v0 w h ha za hb zb (bf g1) (bt g2)
            · by_cases g3 : b = -1000000
              · rw [if_pos (.inr (.inr (.inl g3)))]
                have e : exclP 1000000 a b = a := by unfold exclP; rw [if_neg g1, if_neg g2, if_pos g3]
                rw [e]; exact meaning_xor3 x a b Ag ng cg v0 w h ha za hb zb (bf g1) (bf g2) (bt g3)
              · by_cases g4 : b = 1000000
                · rw [if_pos (.inr (.inr (.inr (.inl g4))))]
                  have e : exclP 1000000 a b = -a := by unfold exclP; rw [if_neg g1, if_neg g2, if_neg g3, if_pos g4]
                  rw [e]; exact meaning_xor4 x a b Ag ng cg v0 w h ha za hb zb (bf g1) (bf g2) (bf g3) (bt g4)
                · by_cases g5 : a = b
                  · rw [if_pos (.inr (.inr (.inr (.inr (.inl g5)))))]
                    have e : exclP 1000000 a b = -1000000 := by unfold exclP; rw [if_neg g1, if_neg g2, if_neg g3, if_neg g4, if_pos g5]
                    rw [e]; exact meaning_xor5 x a b Ag ng cg v0 w h ha za hb zb (bf g1) (bf g2) (bf g3) (bf g4) (bt g5)
                  · by_cases g6 : a = -b
                    · rw [if_pos (.inr (.inr (.inr (.inr (.inr g6)))))]
                      have e : exclP 1000000 a b = 1000000 := by unfold exclP; rw [if_neg g1, if_neg g2, if_neg g3, if_neg g4, if_neg g5]
                      rw [e]; exact meaning_xor6 x a b Ag ng cg v0 w h ha za hb zb (bf g1) (bf g2) (bf g3) (bf g4) (bf g5) (bt g6)
                    · rw [if_neg (by rintro (h | h | h | h | h | h) <;> contradiction)]
                      exact meaning_xor0 x a b Ag ng cg v0 w h ha za hb zb (bf g1) (bf g2) (bf g3) (bf g4) (bf g5) (bf g6)
      · by_cases h4 : kind = 4
        · subst h4
          simp only [if_neg h1, if_neg h2, if_neg h3, if_true, decide_eq_true_eq] at hk
          match ls, hk, h, hls, hz with
          | [c, a, b], _, h, hls, hz =>
            have hc := hls c (by simp)
            have ha := hls a (by simp)
            have hb := hls b (by simp)
            have zc := hz c (by simp)
            have za := hz a (by simp)
            have zb := hz b (by simp)
            simp only [if_neg h3, if_true]
            by_cases g1 : c = 1000000
            · rw [if_pos (.inl g1)]; exact meaning_ite1 x c a b Ag ng cg v0 w h hc zc ha za hb zb (bt g1)
            · by_cases g2 : c = -1000000
              · rw [if_neg (by rintro (h | h); exact g1 h; exact h.1 g2), if_pos g2]; exact meaning_ite2 x c a b Ag ng cg v0 w h hc zc ha za hb zb (bf g1) (bt g2)
              · by_cases g3 : a = b
                · rw [if_pos (.inr ⟨g2, g3⟩)]; exact meaning_ite3 x c a b Ag ng cg v0 w h hc zc ha za hb zb (bf g1) (bf g2) (bt g3)
                · rw [if_neg (by rintro (h | h); exact g1 h; exact g3 h.2), if_neg g2]
                  by_cases g4 : a = 1000000
                  · rw [if_pos g4]; exact meaning_ite4 x c a b Ag ng cg v0 w h hc zc ha za hb zb (bf g1) (bf g2) (bf g3) (bt g4)
                  · rw [if_neg g4]
                    by_cases g5 : a = -1000000
                    · rw [if_pos g5]; exact meaning_ite5 x c a b Ag ng cg v0 w h hc zc ha za hb zb (bf g1) (bf g2) (bf g3) (bf g4) (bt g5)
                    · rw [if_neg g5]
                      by_cases g6 : b = 1000000
                      · rw [if_pos g6]; exact meaning_ite6 x c a b Ag ng cg v0 w h hc zc ha za hb zb (bf g1) (bf g2) (bf g3) (bf g4) (bf g5) (bt g6)
                      · rw [if_neg g6]
                        by_cases g7 : b = -1000000
                        · rw [if_pos g7]; exact meaning_ite7 x c a b Ag ng cg v0 w h hc zc ha za hb zb (bf g1) (bf g2) (bf g3) (bf g4) (bf g5) (bf g6) (bt g7)
                        · rw [if_neg g7]; exact meaning_ite8 x c a b Ag ng cg v0 w h hc zc ha za hb zb (bf g1) (bf g2) (bf g3) (bf g4) (bf g5) (bf g6) (bf g7)
        · simp [if_neg h1, if_neg h2, if_neg h3, if_neg h4] at hk
end Go.Proofs.Ytnlobmepajakcaa
