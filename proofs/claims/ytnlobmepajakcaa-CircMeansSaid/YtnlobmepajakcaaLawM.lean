/- What the law CircMeans does: it returns true; the conditions: the arguments read as data, each gate has at most 2^44 literals. -/
import Derived.Test.YtnlobmepajakcaaOver
import Derived.Test.YtnlobmepajakcaaRefM
import Derived.Test.YtnlobmepajakcaaOpen
set_option linter.unusedVariables false
set_option linter.unusedSimpArgs false
namespace Go.Proofs.Ytnlobmepajakcaa
open Go.RowKit Go.Shelf

theorem many_few {gs : List PGate} (h : manyP gs = false) : gs.length ≤ 300 ∧ litSum gs ≤ 1500 := by
  unfold manyP at h
  simp at h
  exact h
theorem nets_row2 {w : World} {b : Nat} {vp vg vp2 vg2 : Value} {N M : PNet} (hq : w.heap[b]? = some (.cells #[vp, vg, .int .i64 N.out, vp2, vg2, .int .i64 M.out] 25 (0, 0)))
    (hp : BlocksAt w vp N.pre) (hg : GatesAt w vg N.gates) (hp2 : BlocksAt w vp2 M.pre) (hg2 : GatesAt w vg2 M.gates) : NetsRow w b [N, M] := by
  intro j K hj
  match j, hj with
  | 0, hj =>
    cases hj
    exact ⟨vp, vg, cell_row hq rfl, cell_row hq rfl, cell_row hq rfl, hp, hg⟩
  | 1, hj =>
    cases hj
    exact ⟨vp2, vg2, cell_row hq rfl, cell_row hq rfl, cell_row hq rfl, hp2, hg2⟩
  | j + 2, hj => simp at hj
theorem compose_codes (N : PNet) (v : Int) (M : PNet) : (composeP N v M).2 = 0 ∨ ((composeP N v M).2 != 0) = true := by
  by_cases h : (composeP N v M).2 = 0
  · exact .inl h
  · exact .inr (by simpa using h)
set_option maxRecDepth 100000 in
set_option maxHeartbeats 2000000 in
theorem CircMeans_any (v1 v2 va vf : Value) (N M : PNet) (v : Int) (a fx : List Int) (w : World) (h1 : NetAt w v1 N) (h2 : NetAt w v2 M) (hv : I64 v) (ha : IntsAt w va a) (hf : IntsAt w vf fx)
    (hs1 : ∀ g ∈ N.gates, ShortG g) (hs2 : ∀ g ∈ M.gates, ShortG g) :
    Calls Try.prog 4 #[v1, v2, .int .i64 v, va, vf] w fun e w' => e = .returned (.bool true) ∧ Below w.heap.size w w' := by
  have hN := h1
  have hMM := h2
  obtain ⟨vp, vg, rfl, ho, hp, hgt⟩ := h1
  obtain ⟨vp2, vg2, rfl, ho2, hp2, hgt2⟩ := h2
  obtain ⟨Ap, cp, rfl, hlp, hcp⟩ := hp.form
  obtain ⟨Ag, cg, rfl, hlg, hcg⟩ := hgt.form
  obtain ⟨Ap2, cp2, rfl, -, -⟩ := hp2.form
  obtain ⟨Ag2, cg2, rfl, -, -⟩ := hgt2.form
  obtain ⟨Aa, ca, rfl, hla, hca⟩ := ha.form
  obtain ⟨Af, cf, rfl, hlf, hcf⟩ := hf.form
  obtain ⟨w1, hw1, -, -, z1, hB1, q1⟩ := new_block w #[.slice Ap N.pre.length cp, .slice Ag N.gates.length cg, .int .i64 N.out] 25
  obtain ⟨w2, hw2, -, -, z2, hB12, q2⟩ := new_block w1 #[.slice Ap2 M.pre.length cp2, .slice Ag2 M.gates.length cg2, .int .i64 M.out] 25
  obtain ⟨w3, hw3, -, -, z3, hB23, q3⟩ := new_block w2 #[.slice Ap N.pre.length cp, .slice Ag N.gates.length cg, .int .i64 N.out, .slice Ap2 M.pre.length cp2, .slice Ag2 M.gates.length cg2, .int .i64 M.out] 25
  have hB02 := below_then hB1 hB1.size hB12
  have hB03 := below_then hB02 hB02.size hB23
  have rows : ∀ W, Below w3.heap.size w3 W → (W.cell? ⟨w.heap.size, 0, none⟩ = some (.slice Ap N.pre.length cp) ∧ W.cell? ⟨w.heap.size, 1, none⟩ = some (.slice Ag N.gates.length cg) ∧ W.cell? ⟨w.heap.size, 2, none⟩ = some (.int .i64 N.out)) ∧
      (W.cell? ⟨w1.heap.size, 0, none⟩ = some (.slice Ap2 M.pre.length cp2) ∧ W.cell? ⟨w1.heap.size, 1, none⟩ = some (.slice Ag2 M.gates.length cg2) ∧ W.cell? ⟨w1.heap.size, 2, none⟩ = some (.int .i64 M.out)) := fun W hW =>
    have k1 := row_below (row_below (row_below q1 hB12) hB23) hW
    have k2 := row_below (row_below q2 hB23) hW
    ⟨⟨cell_row k1 rfl, cell_row k1 rfl, cell_row k1 rfl⟩, ⟨cell_row k2 rfl, cell_row k2 rfl, cell_row k2 rfl⟩⟩
  have a0 := cell_row q1 (j := 0) (v := .slice Ap N.pre.length cp) rfl
  have a1 := cell_row q1 (j := 1) (v := .slice Ag N.gates.length cg) rfl
  have a2 := cell_row q1 (j := 2) (v := .int .i64 N.out) rfl
  rw [z1] at rows
  obtain ⟨⟨x0, x1, x2⟩, ⟨y0, y1, y2⟩⟩ := rows w3 (Below.refl _ _)
  have u0 := keeps_below hB12 _ _ a0
  have u1 := keeps_below hB12 _ _ a1
  have u2 := keeps_below hB12 _ _ a2
  have t0 := cell_row q2 (j := 0) (v := .slice Ap2 M.pre.length cp2) rfl
  have t1 := cell_row q2 (j := 1) (v := .slice Ag2 M.gates.length cg2) rfl
  have t2 := cell_row q2 (j := 2) (v := .int .i64 M.out) rfl
  rw [z1] at t0 t1 t2
  have CG := great_any w2.heap.size 2 [N, M] w3 (nets_row2 q3 (hp.keep (keeps_below hB03)) (hgt.keep (keeps_below hB03)) (hp2.keep (keeps_below hB03)) (hgt2.keep (keeps_below hB03))) rfl (by omega) (by
    intro K hK
    simp only [List.mem_cons, List.not_mem_nil, or_false] at hK
    rcases hK with rfl | rfl
    · exact hs1
    · exact hs2)
  have eG : ([N, M].any fun N => manyP N.gates) = (manyP N.gates || manyP M.gates) := by simp
  rw [eG] at CG
  have CW := works_any
  clear eG q1 q2 q3 z2 z3 hs1 hs2 a0 a1 a2
  cases hm : (manyP N.gates || manyP M.gates) with
  | true =>
    rw [hm] at CG
    clear hm
    go_enter Try.func4, Try.ntmps4
    go_wp2_with (first | (go_at_call 11; refine CG.mono ?_; rintro e w4 ⟨rfl, hB4⟩) | (go_at_call 12; refine (CW _).mono ?_; rintro e w5 ⟨rfl, hB5⟩))
    go_ret
    exact ⟨rfl, below_then hB03 hB03.size (below_then hB4 hB4.size hB5)⟩
  | false =>
    rw [hm] at CG
    obtain ⟨hm1, hm2⟩ : manyP N.gates = false ∧ manyP M.gates = false := by simpa using hm
    obtain ⟨hgl1, hls1⟩ := many_few hm1
    obtain ⟨hgl2, hls2⟩ := many_few hm2
    clear hm hm1 hm2
    by_cases hlen : 2000 < a.length
    · have hz : (2000 : Int) < (a.length : Int) := by omega
      clear hlen
      go_enter Try.func4, Try.ntmps4
      go_wp2_with (first | (go_at_call 11; refine CG.mono ?_; rintro e w4 ⟨rfl, hB4⟩) | (go_at_call 12; refine (CW _).mono ?_; rintro e w5 ⟨rfl, hB5⟩))
      go_ret
      exact ⟨rfl, below_then hB03 hB03.size (below_then hB4 hB4.size hB5)⟩
    have hz : ¬ (2000 : Int) < (a.length : Int) := by omega
    by_cases hlen2 : 2000 < fx.length
    · have hz2 : (2000 : Int) < (fx.length : Int) := by omega
      clear hlen2 hlen
      go_enter Try.func4, Try.ntmps4
      go_wp2_with (first | (go_at_call 11; refine CG.mono ?_; rintro e w4 ⟨rfl, hB4⟩) | (go_at_call 12; refine (CW _).mono ?_; rintro e w5 ⟨rfl, hB5⟩))
      go_ret
      exact ⟨rfl, below_then hB03 hB03.size (below_then hB4 hB4.size hB5)⟩
    have hz2 : ¬ (2000 : Int) < (fx.length : Int) := by omega
    have atN : ∀ W, Below w3.heap.size w3 W → NetAt W (.agg #[.slice Ap N.pre.length cp, .slice Ag N.gates.length cg, .int .i64 N.out]) N := fun W hW => hN.keep (keeps_below (below_then hB03 hB03.size hW))
    have atM : ∀ W, Below w3.heap.size w3 W → NetAt W (.agg #[.slice Ap2 M.pre.length cp2, .slice Ag2 M.gates.length cg2, .int .i64 M.out]) M := fun W hW => hMM.keep (keeps_below (below_then hB03 hB03.size hW))
    have C18 := fun W hW => MayR_any _ N W (atN W hW) hls1 hgl1
    cases hmay : mayP N with
    | false =>
      rw [hmay] at C18
      clear hlen hlen2
      go_enter Try.func4, Try.ntmps4
      go_wp2_with (first | (go_at_call 11; refine CG.mono ?_; rintro e w4 ⟨rfl, hB4⟩; obtain ⟨⟨b0, b1, b2⟩, -⟩ := rows w4 hB4) | (go_at_call 18; refine (C18 _ hB4).mono ?_; rintro e w5 ⟨rfl, hB5⟩) | (go_at_call 12; refine (CW _).mono ?_; rintro e w6 ⟨rfl, hB6⟩))
      go_ret
      exact ⟨rfl, below_then hB03 hB03.size (below_then hB4 hB4.size (below_then hB5 hB5.size hB6))⟩
    | true =>
      rw [hmay] at C18
      have hps := mayP_some hmay
      obtain ⟨hr1, hr2⟩ := pre_rng hps
      have hne := alt_ne (preS_of hps).1
      have hAA := within_among hps a
      have hFF := within_among hps fx
      obtain ⟨A, hA⟩ : ∃ A, withinP a (varsOf N.pre) = A := ⟨_, rfl⟩
      obtain ⟨F, hF⟩ : ∃ F, withinP fx (varsOf N.pre) = F := ⟨_, rfl⟩
      rw [hA] at hAA
      rw [hF] at hFF
      obtain ⟨m1, m2, m3, m4⟩ := means_simple hmay hAA
      obtain ⟨n1, n2, n3, n4⟩ := means_cof hmay hAA hFF
      go_enter Try.func4, Try.ntmps4
      go_wp2_with (go_at_call 11; refine CG.mono ?_; rintro e w4 ⟨rfl, hB4⟩; obtain ⟨⟨b0, b1, b2⟩, -⟩ := rows w4 hB4)
      refine (C18 _ hB4).mono ?_
      rintro e w5 ⟨rfl, hB5⟩
      have hB35 := below_then hB4 hB4.size hB5
      clear b0 b1 b2 x0 x1 x2 y0 y1 y2
      obtain ⟨⟨x0, x1, x2⟩, -⟩ := rows w5 hB35
      have C19 := Vars_any _ N.pre w5 (hp.keep (keeps_below (below_then hB03 hB03.size hB35))) hne (by omega)
      clear CG C18
      go_wp2_with fail
      refine C19.mono ?_
      rintro e w6 ⟨vv, rfl, hOv, hB6⟩
      obtain ⟨Av, cv, rfl⟩ := own_shape hOv
      have hIv := ints_of_own hOv (fun y hy => by have := hr1 y hy; unfold I64; omega) (by omega)
      have hB36 := below_then hB35 hB35.size hB6
      have C20 := within_any (.slice Aa a.length ca) (.slice Av (varsOf N.pre).length cv) a (varsOf N.pre) w6 (ha.keep (keeps_below (below_then hB03 hB03.size hB36))) hIv hr1 (by omega)
      rw [hA] at C20
      clear C19 hOv x0 x1 x2
      go_wp2_with fail
      refine C20.mono ?_
      rintro e w7 ⟨vA, rfl, hIA, hB7⟩
      have hB37 := below_then hB36 hB36.size hB7
      obtain ⟨AA, cA, rfl, -, -⟩ := hIA.form
      have C20b := within_any (.slice Af fx.length cf) (.slice Av (varsOf N.pre).length cv) fx (varsOf N.pre) w7 (hf.keep (keeps_below (below_then hB03 hB03.size hB37))) (hIv.keep (keeps_below hB7)) hr1 (by omega)
      rw [hF] at C20b
      clear C20 hIv
      go_wp2_with fail
      refine C20b.mono ?_
      rintro e w8 ⟨vF, rfl, hIF, hB8⟩
      have hB38 := below_then hB37 hB37.size hB8
      obtain ⟨AF, cF, rfl, -, -⟩ := hIF.form
      clear C20b
      have atA : ∀ W, Below w8.heap.size w8 W → IntsAt W (.slice AA A.length cA) A := fun W hW => (hIA.keep (keeps_below hB8)).keep (keeps_below hW)
      have atF : ∀ W, Below w8.heap.size w8 W → IntsAt W (.slice AF F.length cF) F := fun W hW => hIF.keep (keeps_below hW)
      have upto : ∀ W, Below w8.heap.size w8 W → Below w3.heap.size w3 W := fun W hW => below_then hB38 hB38.size hW
      obtain ⟨⟨x0, x1, x2⟩, -⟩ := rows w8 hB38
      obtain ⟨b, hb⟩ : ∃ b, evalP N A = (b, 0) := ⟨_, Prod.ext rfl m4⟩
      obtain ⟨S, hS⟩ : ∃ S, simpleP 65537 N [] = S := ⟨_, rfl⟩
      obtain ⟨C, hC⟩ : ∃ C, simpleP 65537 N F = C := ⟨_, rfl⟩
      rw [hS] at m1 m2 m3
      rw [hC] at n1 n2 n3 n4
      rw [hb] at m3
      have hlA : A.length ≤ 10000 := by
        have hl : ∀ (l out : List Int), (l.foldl insV out).length ≤ out.length + l.length := fun l => by
          induction l with
          | nil => intro out; simp
          | cons x l ih => intro out; have := ih (insV out x); have := insV_len out x; simp only [List.foldl_cons, List.length_cons]; omega
        have := hl ((a.filter fun x => decide (absI x ∈ varsOf N.pre)) ++ []) []
        have h2 := List.length_filter_le (fun x => decide (absI x ∈ varsOf N.pre)) a
        rw [← hA]
        unfold withinP overP
        simp at this ⊢
        omega
      have hlF : F.length ≤ 10000 := by
        have hl : ∀ (l out : List Int), (l.foldl insV out).length ≤ out.length + l.length := fun l => by
          induction l with
          | nil => intro out; simp
          | cons x l ih => intro out; have := ih (insV out x); have := insV_len out x; simp only [List.foldl_cons, List.length_cons]; omega
        have := hl ((fx.filter fun x => decide (absI x ∈ varsOf N.pre)) ++ []) []
        have h2 := List.length_filter_le (fun x => decide (absI x ∈ varsOf N.pre)) fx
        rw [← hF]
        unfold withinP overP
        simp at this ⊢
        omega
      have C21 := Eval_any _ (.slice AA A.length cA) N A w8 (atN _ hB38) (atA _ (Below.refl _ _)) (by omega)
      rw [hb] at C21
      have HH := hid (And.intro hz (And.intro hz2 (And.intro hlen hlen2)))
      clear hB37 hB36 hB35 hB4 hB5 hB6 hB7 hB8 hIA hIF hz hz2 hlen hlen2 ha hf
      go_wp2_with fail
      refine C21.mono ?_
      rintro e w9 ⟨rfl, hB9⟩
      have C13 := Simple_any _ N w9 (atN _ (upto _ hB9)) (by omega) (by omega)
      rw [m1] at C13
      clear C21 x0 x1 x2
      obtain ⟨⟨x0, x1, x2⟩, -⟩ := rows w9 (upto _ hB9)
      go_wp2_with fail
      refine C13.mono ?_
      rintro e w10 ⟨hB10, vS, rfl, hFS⟩
      obtain ⟨us, us', rfl, hus, hus1, hus2⟩ := hFS.at
      have hSat := hFS.at
      obtain ⟨As, cs, rfl, -, -⟩ := hus1.form
      obtain ⟨As', cs', rfl, -, -⟩ := hus2.form
      obtain ⟨w11, hw11, -, -, z11, hB11, q11⟩ := new_block w10 #[.slice As S.pre.length cs, .slice As' S.gates.length cs', .int .i64 S.out] 25
      have hB810 := below_then hB9 hB9.size hB10
      have hB811 := below_then hB810 hB810.size hB11
      have C21 := Eval_any _ (.slice AA A.length cA) S A w11 (hSat.keep (keeps_below hB11)) (atA _ hB811) (by have := (mayP_pre m2).2.1; omega)
      rw [m3] at C21
      have d0 := cell_row q11 (j := 0) (v := .slice As S.pre.length cs) rfl
      have d1 := cell_row q11 (j := 1) (v := .slice As' S.gates.length cs') rfl
      have d2 := cell_row q11 (j := 2) (v := .int .i64 S.out) rfl
      clear C13 x0 x1 x2 hus hus1 hus2 hFS hSat hB9 hB10 z11 q11
      go_wp2_with fail
      refine C21.mono ?_
      rintro e w12 ⟨rfl, hB12'⟩
      have hB812 := below_then hB811 hB811.size hB12'
      have C15 := Cofactor_any _ (.slice AF F.length cF) N F w12 (atN _ (upto _ hB812)) (atF _ hB812) (by omega) (by omega)
      rw [n1] at C15
      obtain ⟨⟨x0, x1, x2⟩, -⟩ := rows w12 (upto _ hB812)
      clear C21 d0 d1 d2 hw11 hB811 hB12' hB11 hB810
      go_wp2_with fail
      refine C15.mono ?_
      rintro e w13 ⟨hB13, vC, rfl, hFC⟩
      obtain ⟨us, us', rfl, hus, hus1, hus2⟩ := hFC.at
      have hCat := hFC.at
      obtain ⟨As, cs, rfl, -, -⟩ := hus1.form
      obtain ⟨As', cs', rfl, -, -⟩ := hus2.form
      obtain ⟨w14, hw14, -, -, z14, hB14, q14⟩ := new_block w13 #[.slice As C.pre.length cs, .slice As' C.gates.length cs', .int .i64 C.out] 25
      have hB813 := below_then hB812 hB812.size hB13
      have hB814 := below_then hB813 hB813.size hB14
      obtain ⟨b2, hb2⟩ : ∃ b, evalP N (overP A F) = (b, 0) := ⟨_, Prod.ext rfl (by rw [← n3]; exact n4)⟩
      rw [hb2] at n3
      have C21 := Eval_any _ (.slice AA A.length cA) C A w14 (hCat.keep (keeps_below hB14)) (atA _ hB814) (by have := (mayP_pre n2).2.1; omega)
      rw [n3] at C21
      have d0 := cell_row q14 (j := 0) (v := .slice As C.pre.length cs) rfl
      have d1 := cell_row q14 (j := 1) (v := .slice As' C.gates.length cs') rfl
      have d2 := cell_row q14 (j := 2) (v := .int .i64 C.out) rfl
      clear C15 x0 x1 x2 hus hus1 hus2 hFC hCat hB13 z14 q14
      go_wp2_with fail
      refine C21.mono ?_
      rintro e w15 ⟨rfl, hB15⟩
      have hB815 := below_then hB814 hB814.size hB15
      clear C21 d0 d1 d2 hw14 hB814 hB15 hB14 hB813 hB812
      have KS : ∀ W, Below w8.heap.size w8 W → (Below w8.heap.size w8 W ∧ W.cell? ⟨w.heap.size, 0, none⟩ = some (.slice Ap N.pre.length cp) ∧ W.cell? ⟨w.heap.size, 1, none⟩ = some (.slice Ag N.gates.length cg) ∧ W.cell? ⟨w.heap.size, 2, none⟩ = some (.int .i64 N.out)) := fun W hW => ⟨hW, (rows W (upto _ hW)).1⟩
      have hd15 : Below w8.heap.size w8 w15.drew := hB815.drew
      have C22 := over_any (.slice AA A.length cA) (.slice AF F.length cF) A F w15.drew (atA _ hd15) (atF _ hd15) (by omega)
      obtain ⟨O, hO⟩ : ∃ O, overP A F = O := ⟨_, rfl⟩
      rw [hO] at C22 hb2
      have CE := fun (vO : Value) (W : World) (hW : Below w8.heap.size w8 W) (hI : IntsAt W vO O) => Eval_any _ vO N O W (atN _ (upto _ hW)) hI (by omega)
      rw [hb2] at CE
      go_wp2_with fail
      go_region_held3 (fun w' => Below w8.heap.size w8 w' ∧ w'.cell? ⟨w.heap.size, 0, none⟩ = some (.slice Ap N.pre.length cp) ∧ w'.cell? ⟨w.heap.size, 1, none⟩ = some (.slice Ag N.gates.length cg) ∧ w'.cell? ⟨w.heap.size, 2, none⟩ = some (.int .i64 N.out)) (first | exact KS _ hd15 | exact KS _ (by assumption))
        (first | (go_at_call 22; refine C22.mono ?_; rintro e w16 ⟨vO, rfl, hIO, hB16⟩; have hB816 := below_then hd15 hd15.size hB16; have C21 := CE vO w16 hB816 hIO) | (go_at_call 21; refine C21.mono ?_; rintro e w17 ⟨rfl, hB17⟩; have hB817 := below_then hB816 hB816.size hB17) | fail)
      clear C22 CE hd15 hB815 hB16 hB17 hB816 C21 hIO
      have HZ := compose_codes N v M
      have C23 := Compose_any _ _ N M v w17 (atN _ (upto _ hB817)) (atM _ (upto _ hB817)) hv (by omega) (by omega) (by omega) (by omega)
      have hmc := fun {C : PNet} (h : composeP N v M = (C, 0)) => means_comp h hAA
      obtain ⟨R, hR⟩ : ∃ R, composeP N v M = R := ⟨_, rfl⟩
      rw [hR] at C23 HZ hmc
      obtain ⟨⟨x0, x1, x2⟩, ⟨y0, y1, y2⟩⟩ := rows w17 (upto _ hB817)
      rcases HZ with h0 | h0
      · obtain ⟨Z, k⟩ := R
        have h0' : k = 0 := h0
        subst h0'
        obtain ⟨-, k2, k3, k4, k5, k6, k7, k8⟩ := hmc rfl
        clear hmc h0 hR
        go_wp2_with fail
        refine C23.mono ?_
        rintro e w18 ⟨hB18, vZ, rfl, hFZ⟩
        obtain ⟨us, us', rfl, hus, hus1, hus2⟩ := hFZ.at
        have hZat := hFZ.at
        obtain ⟨As, cs, rfl, -, -⟩ := hus1.form
        obtain ⟨As', cs', rfl, -, -⟩ := hus2.form
        obtain ⟨w19, hw19, -, -, z19, hB19, q19⟩ := new_block w18 #[.slice As Z.pre.length cs, .slice As' Z.gates.length cs', .int .i64 Z.out] 25
        have hB818 := below_then hB817 hB817.size hB18
        have hB819 := below_then hB818 hB818.size hB19
        obtain ⟨bM, hbM⟩ : ∃ b, evalP M A = (b, 0) := ⟨_, Prod.ext rfl k5⟩
        obtain ⟨bZ, hbZ⟩ : ∃ b, evalP Z A = (b, 0) := ⟨_, Prod.ext rfl k7⟩
        have C21 := Eval_any _ (.slice AA A.length cA) M A w19 (atM _ (upto _ hB819)) (atA _ hB819) (by omega)
        rw [hbM] at C21
        obtain ⟨-, ⟨v0, v1, v2⟩⟩ := rows w19 (upto _ hB819)
        clear C23 x0 x1 x2 y0 y1 y2 hus hus1 hus2
        go_wp2_with fail
        refine C21.mono ?_
        rintro e w20 ⟨rfl, hB20⟩
        have hB820 := below_then hB819 hB819.size hB20
        have q20 := row_below q19 hB20
        have d0 := cell_row q20 (j := 0) (v := .slice As Z.pre.length cs) rfl
        have d1 := cell_row q20 (j := 1) (v := .slice As' Z.gates.length cs') rfl
        have d2 := cell_row q20 (j := 2) (v := .int .i64 Z.out) rfl
        have C21 := Eval_any _ (.slice AA A.length cA) Z A w20 (hZat.keep (keeps_below (below_then hB19 hB19.size hB20))) (atA _ hB820) (by have := (mayP_pre k6).2.1; omega)
        rw [hbZ] at C21
        have hneg : IntKind.i64.wrap (-v) = -v := IntWalk.i64_in _ (by omega)
        rw [hbM, hbZ] at k8
        clear v0 v1 v2 hw19 q19 q20 hB19 hB18 hB818 hZat hFZ z19
        have C21Z := C21
        clear C21
        have fin : ∀ lit : Int, I64 lit → (bZ, (0 : Int)) = evalP N (overP A [lit]) → ∀ w21, Below w20.heap.size w20 w21 → Below w8.heap.size w8 w21 ∧
            Below w8.heap.size w8 (w21.alloc (.cells #[.int .i64 lit] 3)).drew ∧
            Calls Try.prog 22 #[.slice AA A.length cA, .slice (some ⟨w21.heap.size, 0, none⟩) 1 1] (w21.alloc (.cells #[.int .i64 lit] 3)).drew (fun e w' => ∃ v', e = .returned v' ∧ IntsAt w' v' (overP A [lit]) ∧ Below (w21.alloc (.cells #[.int .i64 lit] 3)).drew.heap.size (w21.alloc (.cells #[.int .i64 lit] 3)).drew w') := fun lit hl he w21 hB21 => by
          have h1 := below_then hB820 hB820.size hB21
          have h2 : Below w8.heap.size w8 (w21.alloc (.cells #[.int .i64 lit] 3)).drew := (h1.alloc h1.size _).drew
          exact ⟨h1, h2, over_any _ _ A [lit] _ (atA _ h2) (ints_one (heap_alloc_new w21 _) hl) (by simp; omega)⟩
        have CE : ∀ (lit : Int), (bZ, (0 : Int)) = evalP N (overP A [lit]) → ∀ (vO : Value) (W : World), Below w8.heap.size w8 W → IntsAt W vO (overP A [lit]) → Calls Try.prog 21 #[.agg #[.slice Ap N.pre.length cp, .slice Ag N.gates.length cg, .int .i64 N.out], vO] W fun e w' => e = .returned (.tuple #[.bool bZ, .int .i64 0]) ∧ Below W.heap.size W w' := fun lit he vO W hW hI => by
          have := Eval_any _ vO N (overP A [lit]) W (atN _ (upto _ hW)) hI (by omega)
          rw [← he] at this
          exact this
        have hvv : I64 v ∧ I64 (-v) := by unfold I64; omega
        cases bM with
        | true =>
          have k9 : (bZ, (0 : Int)) = evalP N (overP A [v]) := k8
          have FN := fin v hvv.1 k9
          have CF := CE v k9
          clear fin CE k8 k9
          go_wp2_with fail
          refine C21Z.mono ?_
          rintro e w21 ⟨rfl, hB21⟩
          obtain ⟨hB821, hd21, C22⟩ := FN w21 hB21
          have hd0 : Below w8.heap.size w8 w21.drew := hB821.drew
          clear C21Z d0 d1 d2 FN
          go_wp2_with fail
          go_region_held3 (fun w' => Below w8.heap.size w8 w' ∧ w'.cell? ⟨w.heap.size, 0, none⟩ = some (.slice Ap N.pre.length cp) ∧ w'.cell? ⟨w.heap.size, 1, none⟩ = some (.slice Ag N.gates.length cg) ∧ w'.cell? ⟨w.heap.size, 2, none⟩ = some (.int .i64 N.out)) (first | exact KS _ hd0 | exact KS _ hd21 | exact KS _ (by assumption))
            (first | (go_at_call 22; refine C22.mono ?_; rintro e w22 ⟨vO, rfl, hIO, hB22⟩; have hB822 := below_then hd21 hd21.size hB22; have C21 := CF vO w22 hB822 hIO) | (go_at_call 21; refine C21.mono ?_; rintro e w23 ⟨rfl, hB23'⟩; have hB823 := below_then hB822 hB822.size hB23') | fail)
          all_goals
            clear C22 CF C21
            go_wp2_with (go_at_call 12; refine (CW _).mono ?_; rintro e w24 ⟨rfl, hB24⟩)
            go_ret
            exact ⟨rfl, below_then hB03 hB03.size (below_then (upto _ hB823) (upto _ hB823).size hB24)⟩
        | false =>
          have k9 : (bZ, (0 : Int)) = evalP N (overP A [-v]) := k8
          have FN := fin (-v) hvv.2 k9
          have CF := CE (-v) k9
          clear fin CE k8 k9
          go_wp2_with fail
          refine C21Z.mono ?_
          rintro e w21 ⟨rfl, hB21⟩
          obtain ⟨hB821, hd21, C22⟩ := FN w21 hB21
          have hd0 : Below w8.heap.size w8 w21.drew := hB821.drew
          clear C21Z d0 d1 d2 FN
          go_wp2_with fail
          go_region_held3 (fun w' => Below w8.heap.size w8 w' ∧ w'.cell? ⟨w.heap.size, 0, none⟩ = some (.slice Ap N.pre.length cp) ∧ w'.cell? ⟨w.heap.size, 1, none⟩ = some (.slice Ag N.gates.length cg) ∧ w'.cell? ⟨w.heap.size, 2, none⟩ = some (.int .i64 N.out)) (first | exact KS _ hd0 | exact KS _ hd21 | exact KS _ (by assumption))
            (first | (go_at_call 22; refine C22.mono ?_; rintro e w22 ⟨vO, rfl, hIO, hB22⟩; have hB822 := below_then hd21 hd21.size hB22; have C21 := CF vO w22 hB822 hIO) | (go_at_call 21; refine C21.mono ?_; rintro e w23 ⟨rfl, hB23'⟩; have hB823 := below_then hB822 hB822.size hB23') | fail)
          all_goals
            clear C22 CF C21
            go_wp2_with (go_at_call 12; refine (CW _).mono ?_; rintro e w24 ⟨rfl, hB24⟩)
            go_ret
            exact ⟨rfl, below_then hB03 hB03.size (below_then (upto _ hB823) (upto _ hB823).size hB24)⟩
      · obtain ⟨Z, k⟩ := R
        have h0' : (k != 0) = true := h0
        clear hmc h0 hR
        go_wp2_with fail
        refine C23.mono ?_
        rintro e w18 ⟨hB18, vZ, rfl, hFZ⟩
        obtain ⟨us, us', rfl, hus, hus1, hus2⟩ := hFZ.at
        obtain ⟨As, cs, rfl, -, -⟩ := hus1.form
        obtain ⟨As', cs', rfl, -, -⟩ := hus2.form
        have hB818 := below_then hB817 hB817.size hB18
        obtain ⟨w19, hw19, -, -, z19, hB19, q19⟩ := new_block w18 #[.slice As Z.pre.length cs, .slice As' Z.gates.length cs', .int .i64 Z.out] 25
        have hB819 := below_then hB818 hB818.size hB19
        clear C23 x0 x1 x2 y0 y1 y2 hus hus1 hus2 hFZ
        go_wp2_with (go_at_call 12; refine (CW _).mono ?_; rintro e w24 ⟨rfl, hB24⟩)
        go_ret
        exact ⟨rfl, below_then hB03 hB03.size (below_then (upto _ hB819) (upto _ hB819).size hB24)⟩
end Go.Proofs.Ytnlobmepajakcaa
