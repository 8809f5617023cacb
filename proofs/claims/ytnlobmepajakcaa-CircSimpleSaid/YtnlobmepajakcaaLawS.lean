/- What the law CircSimple does, from what the reference's Simple and Cofactor do; the conditions: the arguments read as data, each gate has at most 2^44 literals. -/
import Derived.Test.YtnlobmepajakcaaGreat
import Derived.Test.YtnlobmepajakcaaOpen
import Derived.Test.YtnlobmepajakcaaSame
set_option linter.unusedVariables false
set_option linter.unusedSimpArgs false
namespace Go.Proofs.Ytnlobmepajakcaa
open Go.RowKit Go.Shelf

theorem nets_once {w : World} {b : Nat} {vp vg : Value} {N : PNet} (hq : w.heap[b]? = some (.cells #[vp, vg, .int .i64 N.out] 25 (0, 0))) (hp : BlocksAt w vp N.pre) (hg : GatesAt w vg N.gates) : NetsRow w b [N] := by
  intro j M hj
  match j, hj with
  | 0, hj =>
    cases hj
    exact ⟨vp, vg, cell_row hq rfl, cell_row hq rfl, cell_row hq rfl, hp, hg⟩
  | j + 1, hj => simp at hj
theorem many_tame {gs : List PGate} (h : manyP gs = false) : gs.length ≤ 300 ∧ litSum gs ≤ 1500 := by
  unfold manyP at h
  simp at h
  exact h
set_option maxRecDepth 100000 in
set_option maxHeartbeats 4000000 in
theorem CircSimple_of (H14 : ∀ v N w, NetAt w v N → litSum N.gates ≤ 1500 → N.gates.length ≤ 300 → Calls Try.prog 14 #[v] w (CofPost w (cofactorP N [])))
    (H16 : ∀ v va N a w, NetAt w v N → IntsAt w va a → litSum N.gates ≤ 1500 → N.gates.length ≤ 300 → a.length ≤ 5000 → Calls Try.prog 16 #[v, va] w (CofPost w (cofactorP N a)))
    (v va : Value) (N : PNet) (a : List Int) (w : World) (h : NetAt w v N) (ha : IntsAt w va a) (hs : ∀ g ∈ N.gates, ShortG g) :
    Calls Try.prog 3 #[v, va] w fun e w' => e = .returned (.bool true) ∧ Below w.heap.size w w' := by
  have hN := h
  obtain ⟨vp, vg, rfl, ho, hp, hgt⟩ := h
  obtain ⟨Ap, cp, rfl, hlp, hcp⟩ := hp.form
  obtain ⟨Ag, cg, rfl, hlg, hcg⟩ := hgt.form
  obtain ⟨Aa, ca, rfl, hla, hca⟩ := ha.form
  obtain ⟨w1, hw1, -, -, z1, hB1, q1⟩ := new_block w #[.slice Ap N.pre.length cp, .slice Ag N.gates.length cg, .int .i64 N.out] 25
  obtain ⟨w2, hw2, -, -, z2, hB12, q2⟩ := new_block w1 #[.slice Ap N.pre.length cp, .slice Ag N.gates.length cg, .int .i64 N.out] 25
  have hB02 := below_then hB1 hB1.size hB12
  have rows : ∀ W, Below w2.heap.size w2 W → W.cell? ⟨w.heap.size, 0, none⟩ = some (.slice Ap N.pre.length cp) ∧ W.cell? ⟨w.heap.size, 1, none⟩ = some (.slice Ag N.gates.length cg) ∧ W.cell? ⟨w.heap.size, 2, none⟩ = some (.int .i64 N.out) := fun W hW =>
    ⟨cell_row (row_below (row_below q1 hB12) hW) rfl, cell_row (row_below (row_below q1 hB12) hW) rfl, cell_row (row_below (row_below q1 hB12) hW) rfl⟩
  have a0 := cell_row q1 (j := 0) (v := .slice Ap N.pre.length cp) rfl
  have a1 := cell_row q1 (j := 1) (v := .slice Ag N.gates.length cg) rfl
  have a2 := cell_row q1 (j := 2) (v := .int .i64 N.out) rfl
  have CG := great_any w1.heap.size 1 [N] w2 (nets_once q2 (hp.keep (keeps_below hB02)) (hgt.keep (keeps_below hB02))) rfl (by omega) (by intro M hM; rw [List.mem_singleton] at hM; subst hM; exact hs)
  have eG : ([N].any fun N => manyP N.gates) = manyP N.gates := by simp
  rw [eG, z1] at CG
  have CW := works_any
  have HQ := hid (And.intro q1 q2)
  clear eG q1 q2
  cases hm : manyP N.gates with
  | true =>
    rw [hm] at CG
    clear hm H14 H16
    go_enter Try.func3, Try.ntmps3
    go_wp2_with (first | (go_at_call 11; refine CG.mono ?_; rintro e w3 ⟨rfl, hB3⟩) | (go_at_call 12; refine (CW _).mono ?_; rintro e w4 ⟨rfl, hB4⟩))
    go_ret
    exact ⟨rfl, below_then hB02 hB02.size (below_then hB3 hB3.size hB4)⟩
  | false =>
    rw [hm] at CG
    obtain ⟨hgl, hls⟩ := many_tame hm
    clear hm
    by_cases hlen : 5000 < a.length
    · have hz : (5000 : Int) < (a.length : Int) := by omega
      clear hlen H14 H16
      go_enter Try.func3, Try.ntmps3
      go_wp2_with (first | (go_at_call 11; refine CG.mono ?_; rintro e w3 ⟨rfl, hB3⟩) | (go_at_call 12; refine (CW _).mono ?_; rintro e w4 ⟨rfl, hB4⟩))
      go_ret
      exact ⟨rfl, below_then hB02 hB02.size (below_then hB3 hB3.size hB4)⟩
    · have hz : decide ((5000 : Int) < (a.length : Int)) = false := decide_eq_false (by omega)
      have atN : ∀ W, Below w2.heap.size w2 W → NetAt W (.agg #[.slice Ap N.pre.length cp, .slice Ag N.gates.length cg, .int .i64 N.out]) N := fun W hW => hN.keep (keeps_below (below_then hB02 hB02.size hW))
      have atA : ∀ W, Below w2.heap.size w2 W → IntsAt W (.slice Aa a.length ca) a := fun W hW => ha.keep (keeps_below (below_then hB02 hB02.size hW))
      have C13 := fun W hW => Simple_any _ N W (atN W hW) (by omega) (by omega)
      have C14 := fun W hW => H14 _ N W (atN W hW) hls hgl
      have C15 := fun W hW => Cofactor_any _ _ N a W (atN W hW) (atA W hW) (by omega) (by omega)
      have C16 := fun W hW => H16 _ _ N a W (atN W hW) (atA W hW) hls hgl (by omega)
      generalize cofactorP N [] = R at C13 C14
      generalize cofactorP N a = Q at C15 C16
      obtain ⟨RN, RE⟩ := R
      obtain ⟨QN, QE⟩ := Q
      clear hgl hls hlen H14 H16 atN atA
      go_enter Try.func3, Try.ntmps3
      go_wp2_with (go_at_call 11; refine CG.mono ?_; rintro e w3 ⟨rfl, hB3⟩; obtain ⟨b0, b1, b2⟩ := rows _ hB3)
      refine (C13 _ hB3).mono ?_
      rintro e w4 ⟨hB4, vR, rfl, hF1⟩
      have B4 := below_then hB3 hB3.size hB4
      have hR1 := hF1.at
      obtain ⟨p1, g1, rfl, -, hp1, hg1⟩ := hF1.at
      obtain ⟨A1, c1, rfl, -, -⟩ := hp1.form
      obtain ⟨D1, e1, rfl, -, -⟩ := hg1.form
      obtain ⟨w5, hw5, -, -, z5, hB5, q5⟩ := new_block w4 #[.slice A1 RN.pre.length c1, .slice D1 RN.gates.length e1, .int .i64 RN.out] 25
      have B5 := below_then B4 B4.size hB5
      obtain ⟨x0, x1, x2⟩ := rows w5 B5
      clear b0 b1 b2 hp1 hg1 hF1 CG C13 a0 a1 a2
      go_wp2_with fail
      refine (C14 _ B5).mono ?_
      rintro e w6 ⟨hB6, vR2, rfl, hF2⟩
      have B6 := below_then B5 B5.size hB6
      have hR2 := hF2.at
      obtain ⟨p2, g2, rfl, -, hp2, hg2⟩ := hF2.at
      obtain ⟨A2, c2, rfl, -, -⟩ := hp2.form
      obtain ⟨D2, e2, rfl, -, -⟩ := hg2.form
      obtain ⟨w7, hw7, -, -, z7, hB7, q7⟩ := new_block w6 #[.slice A2 RN.pre.length c2, .slice D2 RN.gates.length e2, .int .i64 RN.out] 25
      have B7 := below_then B6 B6.size hB7
      clear x0 x1 x2 hp2 hg2 hF2 C14 hw5
      obtain ⟨x0, x1, x2⟩ := rows w7 B7
      go_wp2_with fail
      refine (C15 _ B7).mono ?_
      rintro e w8 ⟨hB8, vR3, rfl, hF3⟩
      have B8 := below_then B7 B7.size hB8
      have hR3 := hF3.at
      obtain ⟨p3, g3, rfl, -, hp3, hg3⟩ := hF3.at
      obtain ⟨A3, c3, rfl, -, -⟩ := hp3.form
      obtain ⟨D3, e3, rfl, -, -⟩ := hg3.form
      obtain ⟨w9, hw9, -, -, z9, hB9, q9⟩ := new_block w8 #[.slice A3 QN.pre.length c3, .slice D3 QN.gates.length e3, .int .i64 QN.out] 25
      have B9 := below_then B8 B8.size hB9
      clear x0 x1 x2 hp3 hg3 hF3 C15 hw7
      obtain ⟨x0, x1, x2⟩ := rows w9 B9
      go_wp2_with fail
      refine (C16 _ B9).mono ?_
      rintro e w10 ⟨hB10, vR4, rfl, hF4⟩
      have B10 := below_then B9 B9.size hB10
      have hR4 := hF4.at
      obtain ⟨p4, g4, rfl, -, hp4, hg4⟩ := hF4.at
      obtain ⟨A4, c4, rfl, -, -⟩ := hp4.form
      obtain ⟨D4, e4, rfl, -, -⟩ := hg4.form
      obtain ⟨w11, hw11, -, -, z11, hB11, q11⟩ := new_block w10 #[.slice A4 QN.pre.length c4, .slice D4 QN.gates.length e4, .int .i64 QN.out] 25
      have B11 := below_then B10 B10.size hB11
      have u10 := below_then hB10 hB10.size hB11
      have u9 := below_then hB9 hB9.size u10
      have u8 := below_then hB8 hB8.size u9
      have u7 := below_then hB7 hB7.size u8
      have u6 := below_then hB6 hB6.size u7
      have u5 := below_then hB5 hB5.size u6
      have Q5 := row_below q5 u6
      have Q7 := row_below q7 u8
      have Q9 := row_below q9 u10
      have C17a := fun W (hW : Below w11.heap.size w11 W) => SameR_any _ _ RN RN W ((hR1.keep (keeps_below u5)).keep (keeps_below hW)) ((hR2.keep (keeps_below u7)).keep (keeps_below hW))
      have C17b := fun W (hW : Below w11.heap.size w11 W) => SameR_any _ _ QN QN W ((hR3.keep (keeps_below u9)).keep (keeps_below hW)) ((hR4.keep (keeps_below hB11)).keep (keeps_below hW))
      have ea : decide (RN = RN) = true := by simp
      have eb : decide (QN = QN) = true := by simp
      rw [ea] at C17a
      rw [eb] at C17b
      have y0 := cell_row Q5 (j := 0) (v := .slice A1 RN.pre.length c1) rfl
      have y1 := cell_row Q5 (j := 1) (v := .slice D1 RN.gates.length e1) rfl
      have y2 := cell_row Q5 (j := 2) (v := .int .i64 RN.out) rfl
      have y3 := cell_row Q7 (j := 0) (v := .slice A2 RN.pre.length c2) rfl
      have y4 := cell_row Q7 (j := 1) (v := .slice D2 RN.gates.length e2) rfl
      have y5 := cell_row Q7 (j := 2) (v := .int .i64 RN.out) rfl
      have late : ∀ W, Below w11.heap.size w11 W → (W.cell? ⟨w8.heap.size, 0, none⟩ = some (.slice A3 QN.pre.length c3) ∧ W.cell? ⟨w8.heap.size, 1, none⟩ = some (.slice D3 QN.gates.length e3) ∧ W.cell? ⟨w8.heap.size, 2, none⟩ = some (.int .i64 QN.out)) ∧
          (W.cell? ⟨w10.heap.size, 0, none⟩ = some (.slice A4 QN.pre.length c4) ∧ W.cell? ⟨w10.heap.size, 1, none⟩ = some (.slice D4 QN.gates.length e4) ∧ W.cell? ⟨w10.heap.size, 2, none⟩ = some (.int .i64 QN.out)) := fun W hW =>
        ⟨⟨cell_row (row_below Q9 hW) rfl, cell_row (row_below Q9 hW) rfl, cell_row (row_below Q9 hW) rfl⟩, ⟨cell_row (row_below q11 hW) rfl, cell_row (row_below q11 hW) rfl, cell_row (row_below q11 hW) rfl⟩⟩
      have r1 : (RE == RE) = true := by simp
      have r2 : (QE == QE) = true := by simp
      clear x0 x1 x2 hp4 hg4 hF4 C16 hw9 hR1 hR2 hR3 hR4 ea eb q5 q7 q9 Q5 Q7 u5 u6 u7 u8 u9 u10
      go_wp2_with fail
      refine (C17a _ (Below.refl _ _)).mono ?_
      rintro e w12 ⟨rfl, hB12'⟩
      obtain ⟨⟨s0, s1, s2⟩, s3, s4, s5⟩ := late w12 hB12'
      clear C17a
      go_wp2_with fail
      refine (C17b _ hB12').mono ?_
      rintro e w13 ⟨rfl, hB13⟩
      have B13 := below_then hB12' hB12'.size hB13
      clear C17b y0 y1 y2 y3 y4 y5 s0 s1 s2 s3 s4 s5
      go_wp2_with (go_at_call 12; refine (CW _).mono ?_; rintro e w14 ⟨rfl, hB14⟩)
      go_ret
      exact ⟨rfl, below_then hB02 hB02.size (below_then B11 B11.size (below_then B13 B13.size hB14))⟩
end Go.Proofs.Ytnlobmepajakcaa
