/- What circ.simplified does, in one statement; the condition: the literals' meanings lie within 65,537, the gate has as many as its kind wants, and at most 2^40. -/
import Derived.Test.YtnlobmepajakcaaSimplB
set_option linter.unusedVariables false
set_option linter.unusedSimpArgs false
namespace Go.Proofs.Ytnlobmepajakcaa
open Go.RowKit Go.Shelf

/-- A gate whose literals mean ins: its meaning (0: it stays), its kind and its literals then. T: what is always true. -/
def simplP (T kind : Int) (ins : List Int) : Int × Int × List Int :=
  if kind = 3 then (match ins with
    | [a, b] => if a = -T ∨ a = T ∨ b = -T ∨ b = T ∨ a = b ∨ a = -b then (exclP T a b, 3, ins) else (0, 3, ins)
    | _ => (0, 3, ins))
  else if kind = 4 then (match ins with
    | [c, a, b] => if c = T ∨ (c ≠ -T ∧ a = b) then (a, 4, ins) else if c = -T then (b, 4, ins) else
        if a = T then ((gatherP (-T) [c, b]).1, 2, (gatherP (-T) [c, b]).2) else if a = -T then ((gatherP T [-c, b]).1, 1, (gatherP T [-c, b]).2) else
        if b = T then ((gatherP (-T) [-c, a]).1, 2, (gatherP (-T) [-c, a]).2) else if b = -T then ((gatherP T [c, a]).1, 1, (gatherP T [c, a]).2) else (0, 4, ins)
    | _ => (0, 4, ins))
  else if kind = 1 then ((gatherP T ins).1, 1, (gatherP T ins).2) else ((gatherP (-T) ins).1, 2, (gatherP (-T) ins).2)

theorem bt {a b : Int} (h : a = b) : (a == b) = true := by rw [beq_iff_eq]; exact h
theorem bf {a b : Int} (h : a ≠ b) : (a == b) = false := by rw [beq_eq_false_iff_ne]; exact h
theorem nt {a b : Int} (h : a ≠ b) : (a != b) = true := by simp [h]
theorem nf {a b : Int} (h : a = b) : (a != b) = false := by simp [h]

theorem simplified_any (x kind : Int) (ls : List Int) (v0 : Value) (w : World) (h : IntsAt w v0 ls) (hls : ∀ y ∈ ls, -65537 ≤ y ∧ y ≤ 65537) (hn : ls.length ≤ 1099511627776) (hk : shapedB kind ls.length = true) :
    Calls Try.prog 88 #[.agg #[.int .i64 x, .int .u8 kind, v0]] w (SimplPost w x v0 (simplP 65537 kind ls).1 (simplP 65537 kind ls).2.1 (simplP 65537 kind ls).2.2) := by
  unfold shapedB at hk
  unfold simplP
  by_cases h1 : kind = 1
  · subst h1
    exact simplified_and x ls v0 w h hls hn
  · by_cases h2 : kind = 2
    · subst h2
      exact simplified_or x ls v0 w h hls hn
    · by_cases h3 : kind = 3
      · subst h3
        simp only [if_neg h1, if_neg h2, if_true, decide_eq_true_eq] at hk
        match ls, hk, h, hls with
        | [a, b], _, h, hls =>
          have ha := hls a (by simp)
          have hb := hls b (by simp)
          simp only [if_true]
          by_cases g1 : a = -65537
          · rw [if_pos (.inl g1)]; exact simplified_xor1 x a b v0 w h ha hb (bt g1)
          · by_cases g2 : a = 65537
            · rw [if_pos (.inr (.inl g2))]; exact simplified_xor2 x a b v0 w h ha hb (bf g1) (bt g2)
            · by_cases g3 : b = -65537
              · rw [if_pos (.inr (.inr (.inl g3)))]; exact simplified_xor3 x a b v0 w h ha hb (bf g1) (bf g2) (bt g3)
              · by_cases g4 : b = 65537
                · rw [if_pos (.inr (.inr (.inr (.inl g4))))]; exact simplified_xor4 x a b v0 w h ha hb (bf g1) (bf g2) (bf g3) (bt g4)
                · by_cases g5 : a = b
                  · rw [if_pos (.inr (.inr (.inr (.inr (.inl g5)))))]; exact simplified_xor5 x a b v0 w h ha hb (bf g1) (bf g2) (bf g3) (bf g4) (bt g5)
                  · by_cases g6 : a = -b
                    · rw [if_pos (.inr (.inr (.inr (.inr (.inr g6)))))]; exact simplified_xor6 x a b v0 w h ha hb (bf g1) (bf g2) (bf g3) (bf g4) (bf g5) (bt g6)
                    · rw [if_neg (by rintro (h | h | h | h | h | h) <;> contradiction)]
                      exact simplified_xor0 x a b v0 w h ha hb (bf g1) (bf g2) (bf g3) (bf g4) (bf g5) (bf g6)
      · by_cases h4 : kind = 4
        · subst h4
          simp only [if_neg h1, if_neg h2, if_neg h3, if_true, decide_eq_true_eq] at hk
          match ls, hk, h, hls with
          | [c, a, b], _, h, hls =>
            have hc := hls c (by simp)
            have ha := hls a (by simp)
            have hb := hls b (by simp)
            simp only [if_neg h3, if_true]
            by_cases g1 : c = 65537
            · rw [if_pos (.inl g1)]; exact simplified_ite1 x c a b v0 w h hc ha hb (bt g1)
            · by_cases g2 : c = -65537
              · rw [if_neg (by rintro (h | h); exact g1 h; exact h.1 g2), if_pos g2]; exact simplified_ite3 x c a b v0 w h hc ha hb (bf g1) (nf g2) (bt g2)
              · by_cases g3 : a = b
                · rw [if_pos (.inr ⟨g2, g3⟩)]; exact simplified_ite2 x c a b v0 w h hc ha hb (bf g1) (nt g2) (bt g3)
                · rw [if_neg (by rintro (h | h); exact g1 h; exact g3 h.2), if_neg g2]
                  by_cases g4 : a = 65537
                  · rw [if_pos g4]; exact simplified_ite4 x c a b v0 w h hc ha hb (bf g1) (nt g2) (bf g3) (bf g2) (bt g4)
                  · rw [if_neg g4]
                    by_cases g5 : a = -65537
                    · rw [if_pos g5]; exact simplified_ite5 x c a b v0 w h hc ha hb (bf g1) (nt g2) (bf g3) (bf g2) (bf g4) (bt g5)
                    · rw [if_neg g5]
                      by_cases g6 : b = 65537
                      · rw [if_pos g6]; exact simplified_ite6 x c a b v0 w h hc ha hb (bf g1) (nt g2) (bf g3) (bf g2) (bf g4) (bf g5) (bt g6)
                      · rw [if_neg g6]
                        by_cases g7 : b = -65537
                        · rw [if_pos g7]; exact simplified_ite7 x c a b v0 w h hc ha hb (bf g1) (nt g2) (bf g3) (bf g2) (bf g4) (bf g5) (bf g6) (bt g7)
                        · rw [if_neg g7]; exact simplified_ite8 x c a b v0 w h hc ha hb (bf g1) (nt g2) (bf g3) (bf g2) (bf g4) (bf g5) (bf g6) (bf g7)
        · simp [if_neg h1, if_neg h2, if_neg h3, if_neg h4] at hk
end Go.Proofs.Ytnlobmepajakcaa
