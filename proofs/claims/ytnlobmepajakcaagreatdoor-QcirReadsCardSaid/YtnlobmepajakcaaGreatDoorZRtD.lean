/- What literals of the document's reader does; the condition: at most 2^22 tokens, numbers of at most 65536 / What literals of the document's reader does, for all tokens; the condition: at most 2^22 tokens, numbers of at most 65536. -/
import Derived.Test.YtnlobmepajakcaaGreatDoorZRtB
set_option linter.unusedVariables false
set_option linter.unusedSimpArgs false
namespace Go.Proofs.YtnlobmepajakcaaGreatDoor
open Go.RowKit Go.Shelf
attribute [local go_sem] Oper.semAt_some

/-- What literals returns. -/
def LitPost (w : World) (r : Option (List Int)) (e : Ending) (w' : World) : Prop := Below w.heap.size w w' ∧ match r with
  | none => e = .returned (.tuple #[.slice none 0 0, .bool false])
  | some l => ∃ A c, e = .returned (.tuple #[.slice A l.length c, .bool true]) ∧ w'.ownsRow w.heap.size 3 1 (.slice A l.length c) l.length (nums l)
theorem litPost_none {w : World} {r : Option (List Int)} {w' : World} (h : r = none) (hB : Below w.heap.size w w') : LitPost w r (.returned (.tuple #[.slice none 0 0, .bool false])) w' := by subst h; exact ⟨hB, rfl⟩
theorem litPost_some {w : World} {r : Option (List Int)} {w' : World} {l : List Int} {A : Option Addr} {c : Nat} (h : r = some l) (hB : Below w.heap.size w w') (hO : w'.ownsRow w.heap.size 3 1 (.slice A l.length c) l.length (nums l)) :
    LitPost w r (.returned (.tuple #[.slice A l.length c, .bool true])) w' := by subst h; exact ⟨hB, A, c, rfl, hO⟩
theorem byte_eq (b k : UInt8) : ((b.toNat : Int) == (k.toNat : Int)) = decide (b = k) := by
  by_cases h : b = k
  · subst h; simp
  · rw [decide_eq_false h, beq_eq_false_iff_ne]
    intro e
    exact h (UInt8.toNat_inj.1 (by omega))
theorem isT_any (t : Tok) (k : UInt8) (w : World) : Calls Tryz.prog 106 #[.agg #[.string ⟨t.word.toArray⟩, .int .i64 (t.n : Int), .int .u8 (t.byte.toNat : Int)], .int .u8 (k.toNat : Int)] w fun e w' => e = .returned (.bool (decide (t.byte = k))) ∧ Below w.heap.size w w' := by
  have := is_any (.string ⟨t.word.toArray⟩) (t.n : Int) (t.byte.toNat : Int) (k.toNat : Int) w
  rw [byte_eq] at this
  exact this
theorem ToksAt.cap {w : World} {A : Option Addr} {n c : Nat} {ts : List Tok} (h : ToksAt w (.slice A n c) ts) : ts.length = n ∧ n ≤ c ∧ c ≤ 9223372036854775807 := by
  obtain ⟨A', c', e, h1, h2, -⟩ := h
  cases e
  exact ⟨rfl, h1, h2⟩
set_option maxRecDepth 100000 in
set_option maxHeartbeats 4000000 in
theorem literals_main (A : Option Addr) (n c : Nat) (x z : Tok) (m : List Tok) (signs : Bool) (w : World) (h : ToksAt w (.slice A n c) (x :: (m ++ [z]))) (hl : n ≤ 4194304) (hn : ∀ t ∈ m, t.n ≤ 65536) (hx : x.byte = 40) (hz : z.byte = 41) :
    Calls Tryz.prog 107 #[.slice A n c, .bool signs] w (LitPost w (itemsW signs [] m)) := by
  obtain ⟨hln, hnc, hcm⟩ := h.cap
  have hlm : n = m.length + 2 := by rw [← hln]; simp
  obtain ⟨b, off, rfl, q0, q1, q2⟩ := h.at_ 0 x rfl
  obtain ⟨b', off', e, r0, r1, r2⟩ := h.at_ (n - 1) z (by rw [show n - 1 = m.length + 1 by omega, List.getElem?_cons_succ, List.getElem?_append_right (Nat.le_refl _)]; simp)
  injection e with e
  injection e with e1 e2
  subst e1; subst e2
  have HLM := hid hlm
  have h2n : ¬ (n : Int) < 2 := by omega
  have hlt1 : (0 : Int) < (n : Int) := by omega
  have hw1 : IntKind.i64.wrap ((n : Int) - 1) = (n : Int) - 1 := IntWalk.i64_in _ (by omega)
  have C40 := isT_any x 40 w
  rw [hx, decide_eq_true rfl] at C40
  unfold sv at q0 r0
  rw [hx] at q2
  rw [hz] at r2
  simp only [Nat.zero_mul, Nat.add_zero] at q0 q1 q2
  clear hlm hln
  go_enter Tryz.func107, Tryz.ntmps107
  go_wp2_with fail
  refine C40.mono ?_
  rintro e w1 ⟨rfl, hB1⟩
  have s0 := keeps_below hB1 _ _ r0
  have s1 := keeps_below hB1 _ _ r1
  have s2 := keeps_below hB1 _ _ r2
  have C41 := isT_any z 41 w1
  rw [hz, decide_eq_true rfl] at C41
  clear q0 q1 q2 r0 r1 r2 C40
  go_wp2_with fail
  refine C41.mono ?_
  rintro e w2 ⟨rfl, hB2⟩
  have hB02 := below_then hB1 hB1.size hB2
  clear s0 s1 s2 C41
  go_wp2_with fail
  -- the loop
  have hpp : n - 1 - 1 = m.length := by have := HLM.out; omega
  have HM0 : Hid (∀ (k : Nat) (t : Tok), m[k]? = some t → ∀ W, Keeps w W → TokC W b (off + 3 + k * 3) t) := hid (fun k t ht W hW => by
    obtain ⟨b', off', e, h1⟩ := (h.keep hW).at_ (k + 1) t (by rw [List.getElem?_cons_succ, List.getElem?_append_left (List.getElem?_eq_some_iff.1 ht).1]; exact ht)
    injection e with e
    injection e with e1 e2
    subst e1; subst e2
    rw [show off + 3 + k * 3 = off + (k + 1) * 3 by omega]
    exact h1)
  have HNL := hid hn
  generalize n - 1 - 1 = p at hpp ⊢
  generalize off + 3 = o at HM0 ⊢
  generalize c - 1 = c1
  have HM := HM0
  have HP := hid hpp
  have hpl : p ≤ 4194304 := by have := HLM.out; omega
  clear hpp HM0 h hn
  go_loopg [6, 7] p (fun gg s6 s7 wr => ∃ (k : Nat) (l : List Int) (A : Option Addr) (c : Nat), k ≤ p ∧ p - k ≤ gg ∧ s7 = .int .i64 (k : Int) ∧ s6 = .slice A l.length c ∧ Below w.heap.size w wr ∧
    wr.ownsRow w.heap.size 3 1 (.slice A l.length c) l.length (nums l) ∧ l.length ≤ k ∧ Hid (itemsW signs [] m = itemsW signs l (m.drop k)))
  case atStart => exact ⟨0, [], none, 0, by omega, by omega, rfl, rfl, hB02, World.ownsRow_nil _ _ _ _, by simp, hid rfl⟩
  case round =>
    clear hB1 hB2 hB02
    obtain ⟨k, l, A, c, hk, hg, rfl, rfl, hB, hO, hlk, HR0⟩ := hrel
    by_cases hlt : k < p
    · have hltz : (k : Int) < (p : Int) := by omega
      obtain ⟨t, ht, -, htd⟩ := nth (show k < m.length by rw [← HP.out]; exact hlt)
      have HT := hid ht
      have HR : Hid (itemsW signs [] m = itemsW signs l (t :: m.drop (k + 1))) := hid (by rw [HR0.out, htd])
      clear ht htd HR0
      by_cases hl0 : l = []
      · subst hl0
        simp only [List.length_nil] at hO ⊢
        have HA : Hid (stepA [] t (m.drop (k + 1)) = some (t :: m.drop (k + 1))) := hid (stepA_first _ _)
        have HX := HT
        have hge : decide ((p : Int) ≤ (k : Int)) = false := decide_eq_false (by omega)
        cases signs with
        | false =>
          have hcx := HM.out k t HX.out wr (keeps_below hB)
          obtain ⟨-, x1, -⟩ := hcx
          by_cases hn0 : t.n = 0
          · have hz0 : ((t.n : Int) == 0) = true := by rw [hn0]; rfl
            have HN : Hid (itemsW false [] m = none) := hid (by rw [HR.out]; exact itemsW_bad HA.out (by rw [stepB_plain (by rfl), if_pos hn0]))
            clear hn0
            go_wp2_with fail
            go_ret2
            exact litPost_none HN.out hB
          · have hz0 : ((t.n : Int) == 0) = false := beq_eq_false_iff_ne.2 (by omega)
            have hnl := HNL.out t (List.mem_of_getElem? HX.out)
            have HN : Hid (itemsW false [] m = itemsW false ([] ++ [(t.n : Int)]) (m.drop (k + 1))) := hid (by rw [HR.out, itemsW_go HA.out (p := ((t.n : Int), m.drop (k + 1))) (by rw [stepB_plain (by rfl), if_neg hn0])])
            have hbs := hB.size
            go_wp2_with (first | (at_builtin; refine append_one w.heap.size rfl _ _ 48 3 (.int .i64 0) 1 8 rfl Tryz.underlying48 info3 rfl (by decide) (by decide) (.slice A 0 c) 0 (nums []) #[.int .i64 (t.n : Int)] rfl rfl rfl (by intro u hu; simp at hu; subst hu; rfl) hO hbs (by omega) ?_; intro g2 cap2 w9 hO9 hG9 hg9 hbg9 hlt9) | fail)
            go_roundg (p - (k + 1))
            case measure => omega
            case rel =>
              refine ⟨k + 1, [] ++ [(t.n : Int)], some ⟨g2, 0, none⟩, cap2, by omega, by omega, by go_num, by rw [List.length_append]; rfl, hB.grown hG9 hbs (fun r e => (hO.lt r e).1), ?_, by rw [List.length_append]; simp only [List.length_cons, List.length_nil]; omega, HN⟩
              rw [List.length_append, ← nums_snoc1]
              exact hO9
        | true =>
          have hcx := HM.out k t HX.out wr (keeps_below hB)
          obtain ⟨x0, x1, x2⟩ := hcx
          unfold sv at x0
          have C45 := isT_any t 45 wr
          by_cases h45 : t.byte = 45
          · rw [decide_eq_true h45] at C45
            replace h45 := hid h45
            go_wp2_with fail
            refine C45.mono ?_
            rintro e w5 ⟨rfl, hB5⟩
            have hB05 := below_then hB hB.size hB5
            have hO5 := hO.kept (grown_of_below hB5 none) (by cases (Value.slice A 0 c).ownBlock <;> simp)
            clear C45 x0 x1 x2
            by_cases hlt2 : (k + 1) < p
            · have hlt2z : (((k : Int) + 1) : Int) < (p : Int) := by omega
              have hge2z : ¬ (p : Int) ≤ (((k : Int) + 1) : Int) := by omega
              have hge2d : decide ((p : Int) ≤ (((k : Int) + 1) : Int)) = false := decide_eq_false hge2z
              obtain ⟨y, hy, -, hyd⟩ := nth (show (k + 1) < m.length by rw [← HP.out]; exact hlt2)
              have HY := hid hy
              have HYD := hid hyd
              have hcy := HM.out (k + 1) y hy w5 (keeps_below hB05)
              obtain ⟨-, y1, -⟩ := hcy
              clear hy hyd hge2z
              by_cases hn0 : y.n = 0
              · have hz0 : ((y.n : Int) == 0) = true := by rw [hn0]; rfl
                have HN : Hid (itemsW true [] m = none) := hid (by rw [HR.out]; exact itemsW_bad HA.out (by rw [HYD.out, stepB_minus h45.out, if_pos hn0]))
                clear hn0
                go_wp2_with fail
                go_ret2
                exact litPost_none HN.out hB05
              · have hz0 : ((y.n : Int) == 0) = false := beq_eq_false_iff_ne.2 (by omega)
                have hnl := HNL.out y (List.mem_of_getElem? HY.out)
                have hw9 : IntKind.i64.wrap (-1 * (y.n : Int)) = -(y.n : Int) := by rw [IntWalk.i64_in _ (by omega)]; omega
                have hw8 : IntKind.i64.wrap (-(y.n : Int)) = -(y.n : Int) := IntWalk.i64_in _ (by omega)
                have HN : Hid (itemsW true [] m = itemsW true ([] ++ [-(y.n : Int)]) (m.drop ((k + 1) + 1))) := hid (by rw [HR.out, itemsW_go HA.out (p := (-(y.n : Int), m.drop ((k + 1) + 1))) (by rw [HYD.out, stepB_minus h45.out, if_neg hn0])])
                have hbs := hB05.size
                go_wp2_with (first | (at_builtin; refine append_one w.heap.size rfl _ _ 48 3 (.int .i64 0) 1 8 rfl Tryz.underlying48 info3 rfl (by decide) (by decide) (.slice A 0 c) 0 (nums []) #[.int .i64 (-(y.n : Int))] rfl rfl rfl (by intro u hu; simp at hu; subst hu; rfl) hO5 hbs (by omega) ?_; intro g2 cap2 w9 hO9 hG9 hg9 hbg9 hlt9) | fail)
                go_roundg (p - ((k + 1) + 1))
                case measure => omega
                case rel =>
                  refine ⟨(k + 1) + 1, [] ++ [-(y.n : Int)], some ⟨g2, 0, none⟩, cap2, by omega, by omega, by go_num, by rw [List.length_append]; rfl, hB05.grown hG9 hbs (fun r e => (hO5.lt r e).1), ?_, by rw [List.length_append]; simp only [List.length_cons, List.length_nil]; omega, HN⟩
                  rw [List.length_append, ← nums_snoc1]
                  exact hO9
            · have hge2 : (p : Int) ≤ (((k : Int) + 1) : Int) := by omega
              have HE := hid (show m.drop (k + 1) = [] from List.drop_eq_nil_of_le (by rw [← HP.out]; omega))
              clear hlt2
              have HN : Hid (itemsW true [] m = none) := hid (by rw [HR.out]; exact itemsW_bad HA.out (by rw [HE.out, stepB_minus_nil h45.out]))
              skip
              go_wp2_with fail
              go_ret2
              exact litPost_none HN.out hB05
          · rw [decide_eq_false h45] at C45
            replace h45 := hid h45
            go_wp2_with fail
            refine C45.mono ?_
            rintro e w5 ⟨rfl, hB5⟩
            have hB05 := below_then hB hB.size hB5
            have hO5 := hO.kept (grown_of_below hB5 none) (by cases (Value.slice A 0 c).ownBlock <;> simp)
            have z1 := keeps_below hB5 _ _ x1
            clear C45 x0 x1 x2
            by_cases hn0 : t.n = 0
            · have hz0 : ((t.n : Int) == 0) = true := by rw [hn0]; rfl
              have HN : Hid (itemsW true [] m = none) := hid (by rw [HR.out]; exact itemsW_bad HA.out (by rw [stepB_plain (by simp [h45.out]), if_pos hn0]))
              clear hn0
              go_wp2_with fail
              go_ret2
              exact litPost_none HN.out hB05
            · have hz0 : ((t.n : Int) == 0) = false := beq_eq_false_iff_ne.2 (by omega)
              have hnl := HNL.out t (List.mem_of_getElem? HX.out)
              have HN : Hid (itemsW true [] m = itemsW true ([] ++ [(t.n : Int)]) (m.drop (k + 1))) := hid (by rw [HR.out, itemsW_go HA.out (p := ((t.n : Int), m.drop (k + 1))) (by rw [stepB_plain (by simp [h45.out]), if_neg hn0])])
              have hbs := hB05.size
              go_wp2_with (first | (at_builtin; refine append_one w.heap.size rfl _ _ 48 3 (.int .i64 0) 1 8 rfl Tryz.underlying48 info3 rfl (by decide) (by decide) (.slice A 0 c) 0 (nums []) #[.int .i64 (t.n : Int)] rfl rfl rfl (by intro u hu; simp at hu; subst hu; rfl) hO5 hbs (by omega) ?_; intro g2 cap2 w9 hO9 hG9 hg9 hbg9 hlt9) | fail)
              go_roundg (p - (k + 1))
              case measure => omega
              case rel =>
                refine ⟨k + 1, [] ++ [(t.n : Int)], some ⟨g2, 0, none⟩, cap2, by omega, by omega, by go_num, by rw [List.length_append]; rfl, hB05.grown hG9 hbs (fun r e => (hO5.lt r e).1), ?_, by rw [List.length_append]; simp only [List.length_cons, List.length_nil]; omega, HN⟩
                rw [List.length_append, ← nums_snoc1]
                exact hO9
      · have hlp : 0 < l.length := List.length_pos_iff.2 hl0
        have HL0 := hid hl0
        obtain ⟨x0, x1, x2⟩ := HM.out k t HT.out wr (keeps_below hB)
        unfold sv at x0
        have C44 := isT_any t 44 wr
        clear hl0
        by_cases h44 : t.byte = 44
        · rw [decide_eq_true h44] at C44
          have HA0 : Hid (stepA l t (m.drop (k + 1)) = some (m.drop (k + 1))) := hid (stepA_comma HL0.out h44)
          clear h44
          go_wp2_with fail
          refine C44.mono ?_
          rintro e w4 ⟨rfl, hB4⟩
          have hB04 := below_then hB hB.size hB4
          have hO4 := hO.kept (grown_of_below hB4 none) (by cases (Value.slice A l.length c).ownBlock <;> simp)
          clear C44 x0 x1 x2 hO
          have hw1 : IntKind.i64.wrap ((k : Int) + 1) = (k : Int) + 1 := IntWalk.i64_in _ (by omega)
          by_cases hlt2 : k + 1 < p
          · have hlt2z : (k : Int) + 1 < (p : Int) := by omega
            obtain ⟨u, hu, -, hud⟩ := nth (show k + 1 < m.length by rw [← HP.out]; exact hlt2)
            have HX := hid hu
            have HA : Hid (stepA l t (m.drop (k + 1)) = some (u :: m.drop (k + 1 + 1))) := hid (by rw [HA0.out, hud])
            have hge : decide ((p : Int) ≤ (k : Int) + 1) = false := decide_eq_false (by omega)
            clear hu hud HA0 hlt2
            cases signs with
            | false =>
              have hcx := HM.out (k + 1) u HX.out w4 (keeps_below hB04)
              obtain ⟨-, x1, -⟩ := hcx
              by_cases hn0 : u.n = 0
              · have hz0 : ((u.n : Int) == 0) = true := by rw [hn0]; rfl
                have HN : Hid (itemsW false [] m = none) := hid (by rw [HR.out]; exact itemsW_bad HA.out (by rw [stepB_plain (by rfl), if_pos hn0]))
                clear hn0
                go_wp2_with fail
                go_ret2
                exact litPost_none HN.out hB04
              · have hz0 : ((u.n : Int) == 0) = false := beq_eq_false_iff_ne.2 (by omega)
                have hnl := HNL.out u (List.mem_of_getElem? HX.out)
                have HN : Hid (itemsW false [] m = itemsW false (l ++ [(u.n : Int)]) (m.drop ((k + 1) + 1))) := hid (by rw [HR.out, itemsW_go HA.out (p := ((u.n : Int), m.drop ((k + 1) + 1))) (by rw [stepB_plain (by rfl), if_neg hn0])])
                have hbs := hB04.size
                go_wp2_with (first | (at_builtin; refine append_one w.heap.size rfl _ _ 48 3 (.int .i64 0) 1 8 rfl Tryz.underlying48 info3 rfl (by decide) (by decide) (.slice A l.length c) l.length (nums l) #[.int .i64 (u.n : Int)] rfl rfl rfl (by intro u hu; simp at hu; subst hu; rfl) hO4 hbs (by omega) ?_; intro g2 cap2 w9 hO9 hG9 hg9 hbg9 hlt9) | fail)
                go_roundg (p - ((k + 1) + 1))
                case measure => omega
                case rel =>
                  refine ⟨(k + 1) + 1, l ++ [(u.n : Int)], some ⟨g2, 0, none⟩, cap2, by omega, by omega, by go_num, by rw [List.length_append]; rfl, hB04.grown hG9 hbs (fun r e => (hO4.lt r e).1), ?_, by rw [List.length_append]; simp only [List.length_cons, List.length_nil]; omega, HN⟩
                  rw [List.length_append, ← nums_snoc1]
                  exact hO9
            | true =>
              have hcx := HM.out (k + 1) u HX.out w4 (keeps_below hB04)
              obtain ⟨x0, x1, x2⟩ := hcx
              unfold sv at x0
              have C45 := isT_any u 45 w4
              by_cases h45 : u.byte = 45
              · rw [decide_eq_true h45] at C45
                replace h45 := hid h45
                go_wp2_with fail
                refine C45.mono ?_
                rintro e w5 ⟨rfl, hB5⟩
                have hB05 := below_then hB04 hB04.size hB5
                have hO5 := hO4.kept (grown_of_below hB5 none) (by cases (Value.slice A l.length c).ownBlock <;> simp)
                clear C45 x0 x1 x2
                by_cases hlt2 : (k + 1 + 1) < p
                · have hlt2z : (((k : Int) + 1 + 1) : Int) < (p : Int) := by omega
                  have hge2z : ¬ (p : Int) ≤ (((k : Int) + 1 + 1) : Int) := by omega
                  have hge2d : decide ((p : Int) ≤ (((k : Int) + 1 + 1) : Int)) = false := decide_eq_false hge2z
                  obtain ⟨y, hy, -, hyd⟩ := nth (show (k + 1 + 1) < m.length by rw [← HP.out]; exact hlt2)
                  have HY := hid hy
                  have HYD := hid hyd
                  have hcy := HM.out (k + 1 + 1) y hy w5 (keeps_below hB05)
                  obtain ⟨-, y1, -⟩ := hcy
                  clear hy hyd hge2z
                  by_cases hn0 : y.n = 0
                  · have hz0 : ((y.n : Int) == 0) = true := by rw [hn0]; rfl
                    have HN : Hid (itemsW true [] m = none) := hid (by rw [HR.out]; exact itemsW_bad HA.out (by rw [HYD.out, stepB_minus h45.out, if_pos hn0]))
                    clear hn0
                    go_wp2_with fail
                    go_ret2
                    exact litPost_none HN.out hB05
                  · have hz0 : ((y.n : Int) == 0) = false := beq_eq_false_iff_ne.2 (by omega)
                    have hnl := HNL.out y (List.mem_of_getElem? HY.out)
                    have hw9 : IntKind.i64.wrap (-1 * (y.n : Int)) = -(y.n : Int) := by rw [IntWalk.i64_in _ (by omega)]; omega
                    have hw8 : IntKind.i64.wrap (-(y.n : Int)) = -(y.n : Int) := IntWalk.i64_in _ (by omega)
                    have HN : Hid (itemsW true [] m = itemsW true (l ++ [-(y.n : Int)]) (m.drop ((k + 1 + 1) + 1))) := hid (by rw [HR.out, itemsW_go HA.out (p := (-(y.n : Int), m.drop ((k + 1 + 1) + 1))) (by rw [HYD.out, stepB_minus h45.out, if_neg hn0])])
                    have hbs := hB05.size
                    go_wp2_with (first | (at_builtin; refine append_one w.heap.size rfl _ _ 48 3 (.int .i64 0) 1 8 rfl Tryz.underlying48 info3 rfl (by decide) (by decide) (.slice A l.length c) l.length (nums l) #[.int .i64 (-(y.n : Int))] rfl rfl rfl (by intro u hu; simp at hu; subst hu; rfl) hO5 hbs (by omega) ?_; intro g2 cap2 w9 hO9 hG9 hg9 hbg9 hlt9) | fail)
                    go_roundg (p - ((k + 1 + 1) + 1))
                    case measure => omega
                    case rel =>
                      refine ⟨(k + 1 + 1) + 1, l ++ [-(y.n : Int)], some ⟨g2, 0, none⟩, cap2, by omega, by omega, by go_num, by rw [List.length_append]; rfl, hB05.grown hG9 hbs (fun r e => (hO5.lt r e).1), ?_, by rw [List.length_append]; simp only [List.length_cons, List.length_nil]; omega, HN⟩
                      rw [List.length_append, ← nums_snoc1]
                      exact hO9
                · have hge2 : (p : Int) ≤ (((k : Int) + 1 + 1) : Int) := by omega
                  have HE := hid (show m.drop ((k + 1) + 1) = [] from List.drop_eq_nil_of_le (by rw [← HP.out]; omega))
                  clear hlt2
                  have HN : Hid (itemsW true [] m = none) := hid (by rw [HR.out]; exact itemsW_bad HA.out (by rw [HE.out, stepB_minus_nil h45.out]))
                  skip
                  go_wp2_with fail
                  go_ret2
                  exact litPost_none HN.out hB05
              · rw [decide_eq_false h45] at C45
                replace h45 := hid h45
                go_wp2_with fail
                refine C45.mono ?_
                rintro e w5 ⟨rfl, hB5⟩
                have hB05 := below_then hB04 hB04.size hB5
                have hO5 := hO4.kept (grown_of_below hB5 none) (by cases (Value.slice A l.length c).ownBlock <;> simp)
                have z1 := keeps_below hB5 _ _ x1
                clear C45 x0 x1 x2
                by_cases hn0 : u.n = 0
                · have hz0 : ((u.n : Int) == 0) = true := by rw [hn0]; rfl
                  have HN : Hid (itemsW true [] m = none) := hid (by rw [HR.out]; exact itemsW_bad HA.out (by rw [stepB_plain (by simp [h45.out]), if_pos hn0]))
                  clear hn0
                  go_wp2_with fail
                  go_ret2
                  exact litPost_none HN.out hB05
                · have hz0 : ((u.n : Int) == 0) = false := beq_eq_false_iff_ne.2 (by omega)
                  have hnl := HNL.out u (List.mem_of_getElem? HX.out)
                  have HN : Hid (itemsW true [] m = itemsW true (l ++ [(u.n : Int)]) (m.drop ((k + 1) + 1))) := hid (by rw [HR.out, itemsW_go HA.out (p := ((u.n : Int), m.drop ((k + 1) + 1))) (by rw [stepB_plain (by simp [h45.out]), if_neg hn0])])
                  have hbs := hB05.size
                  go_wp2_with (first | (at_builtin; refine append_one w.heap.size rfl _ _ 48 3 (.int .i64 0) 1 8 rfl Tryz.underlying48 info3 rfl (by decide) (by decide) (.slice A l.length c) l.length (nums l) #[.int .i64 (u.n : Int)] rfl rfl rfl (by intro u hu; simp at hu; subst hu; rfl) hO5 hbs (by omega) ?_; intro g2 cap2 w9 hO9 hG9 hg9 hbg9 hlt9) | fail)
                  go_roundg (p - ((k + 1) + 1))
                  case measure => omega
                  case rel =>
                    refine ⟨(k + 1) + 1, l ++ [(u.n : Int)], some ⟨g2, 0, none⟩, cap2, by omega, by omega, by go_num, by rw [List.length_append]; rfl, hB05.grown hG9 hbs (fun r e => (hO5.lt r e).1), ?_, by rw [List.length_append]; simp only [List.length_cons, List.length_nil]; omega, HN⟩
                    rw [List.length_append, ← nums_snoc1]
                    exact hO9
          · have hge : (p : Int) ≤ (k : Int) + 1 := by omega
            have hltd : decide ((k : Int) + 1 < (p : Int)) = false := decide_eq_false (by omega)
            have HN : Hid (itemsW signs [] m = none) := hid (by rw [HR.out]; exact itemsW_bad HA0.out (by rw [List.drop_eq_nil_of_le (by rw [← HP.out]; omega), stepB_nil]))
            clear hlt2 hlt hltz
            go_wp2_with fail
            go_ret2
            exact litPost_none HN.out hB04
        · rw [decide_eq_false h44] at C44
          have HN : Hid (itemsW signs [] m = none) := hid (by rw [HR.out]; exact itemsW_no (stepA_none HL0.out h44))
          clear h44
          go_wp2_with fail
          refine C44.mono ?_
          rintro e w4 ⟨rfl, hB4⟩
          go_wp2_with fail
          go_ret2
          exact litPost_none HN.out (below_then hB hB.size hB4)
    · have hltz : ¬ (k : Int) < (p : Int) := by omega
      have HN : Hid (itemsW signs [] m = some l) := hid (by rw [HR0.out, List.drop_eq_nil_of_le (by rw [← HP.out]; omega)]; rfl)
      go_wp2_with fail
      go_ret2
      exact litPost_some HN.out hB hO
end Go.Proofs.YtnlobmepajakcaaGreatDoor
namespace Go.Proofs.YtnlobmepajakcaaGreatDoor
open Go.RowKit Go.Shelf
attribute [local go_sem] Oper.semAt_some

theorem LitPost.of {w : World} {r r' : Option (List Int)} (h : r' = r) {e : Ending} {w' : World} (k : LitPost w r e w') : LitPost w r' e w' := by subst h; exact k
set_option maxRecDepth 100000 in
set_option maxHeartbeats 1000000 in
theorem literalsR_any (A : Option Addr) (n c : Nat) (ts : List Tok) (signs : Bool) (w : World) (h : ToksAt w (.slice A n c) ts) (hl : n ≤ 4194304) (hn : ∀ t ∈ ts, t.n ≤ 65536) :
    Calls Tryz.prog 107 #[.slice A n c, .bool signs] w (LitPost w (literalsT ts signs)) := by
  obtain ⟨hln, hnc, hcm⟩ := h.cap
  by_cases h2 : n < 2
  · have HN := hid (show literalsT ts signs = none by rw [lits_eq, if_pos (.inl (by omega))])
    have hz : (n : Int) < 2 := by omega
    clear h h2 hln
    go_enter Tryz.func107, Tryz.ntmps107
    go_wp2_with fail
    go_ret2
    exact litPost_none HN.out (Below.refl _ _)
  · obtain ⟨x, r, rfl⟩ : ∃ x r, ts = x :: r := by
      cases ts with
      | nil => simp at hln; omega
      | cons x r => exact ⟨x, r, rfl⟩
    obtain ⟨m, z, rfl⟩ : ∃ m z, r = m ++ [z] := by
      rcases List.eq_nil_or_concat r with rfl | ⟨m, z, rfl⟩
      · simp at hln; omega
      · exact ⟨m, z, by simp⟩
    by_cases hx : x.byte = 40
    · by_cases hz : z.byte = 41
      · have e : literalsT (x :: (m ++ [z])) signs = itemsW signs [] m := by
          rw [lits_eq, if_neg]
          · simp
          · rintro (h | h | h)
            · simp only [List.length_cons, List.length_append, List.length_nil] at h; omega
            · exact h (by simp [hx])
            · exact h (by simp [List.getLast?_cons, hz])
        refine (literals_main A n c x z m signs w h hl (fun t ht => hn t (by simp [ht])) hx hz).mono (fun e' w' k => k.of e)
      · have HN := hid (show literalsT (x :: (m ++ [z])) signs = none by rw [lits_eq, if_pos (.inr (.inr (by simp [List.getLast?_cons, hz])))])
        have hlm : n = m.length + 2 := by rw [← hln]; simp
        obtain ⟨b, off, rfl, q0, q1, q2⟩ := h.at_ 0 x rfl
        obtain ⟨b', off', e, r0, r1, r2⟩ := h.at_ (n - 1) z (by rw [show n - 1 = m.length + 1 by omega, List.getElem?_cons_succ, List.getElem?_append_right (Nat.le_refl _)]; simp)
        injection e with e
        injection e with e1 e2
        subst e1; subst e2
        have h2n : ¬ (n : Int) < 2 := by omega
        have hlt1 : (0 : Int) < (n : Int) := by omega
        have hw1 : IntKind.i64.wrap ((n : Int) - 1) = (n : Int) - 1 := IntWalk.i64_in _ (by omega)
        have C40 := isT_any x 40 w
        rw [hx, decide_eq_true rfl] at C40
        unfold sv at q0 r0
        rw [hx] at q2
        simp only [Nat.zero_mul, Nat.add_zero] at q0 q1 q2
        have CZ : ∀ W, Calls Tryz.prog 106 _ W _ := fun W => isT_any z 41 W
        rw [decide_eq_false hz] at CZ
        clear hlm hln h hz h2
        go_enter Tryz.func107, Tryz.ntmps107
        go_wp2_with fail
        refine C40.mono ?_
        rintro e w1 ⟨rfl, hB1⟩
        have s0 := keeps_below hB1 _ _ r0
        have s1 := keeps_below hB1 _ _ r1
        have s2 := keeps_below hB1 _ _ r2
        have C41 := CZ w1
        clear q0 q1 q2 r0 r1 r2 C40
        go_wp2_with fail
        refine C41.mono ?_
        rintro e w2 ⟨rfl, hB2⟩
        go_wp2_with fail
        go_ret2
        exact litPost_none HN.out (below_then hB1 hB1.size hB2)
    · have HN := hid (show literalsT (x :: (m ++ [z])) signs = none by rw [lits_eq, if_pos (.inr (.inl (by simpa using hx)))])
      obtain ⟨b, off, rfl, q0, q1, q2⟩ := h.at_ 0 x rfl
      have h2n : ¬ (n : Int) < 2 := by omega
      have hlt1 : (0 : Int) < (n : Int) := by omega
      have C40 := isT_any x 40 w
      rw [decide_eq_false hx] at C40
      unfold sv at q0
      simp only [Nat.zero_mul, Nat.add_zero] at q0 q1 q2
      clear hln h hx h2
      go_enter Tryz.func107, Tryz.ntmps107
      go_wp2_with fail
      refine C40.mono ?_
      rintro e w1 ⟨rfl, hB1⟩
      go_wp2_with fail
      go_ret2
      exact litPost_none HN.out hB1
end Go.Proofs.YtnlobmepajakcaaGreatDoor
