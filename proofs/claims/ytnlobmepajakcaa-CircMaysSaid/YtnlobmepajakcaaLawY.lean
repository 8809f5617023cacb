/- What the law CircMays does: it returns true; the conditions: the arguments read as data, each gate has at most 2^44 literals. -/
import Derived.Test.YtnlobmepajakcaaSupp
import Derived.Test.YtnlobmepajakcaaSameC
import Derived.Test.YtnlobmepajakcaaWorks
import Derived.Test.YtnlobmepajakcaaOpen
set_option linter.unusedVariables false
set_option linter.unusedSimpArgs false
namespace Go.Proofs.Ytnlobmepajakcaa
open Go.RowKit Go.Shelf

theorem many_less {gs : List PGate} (h : manyP gs = false) : gs.length ≤ 300 ∧ litSum gs ≤ 1500 := by
  unfold manyP at h
  simp at h
  exact h
theorem nets_two {w : World} {b : Nat} {vp vg vp2 vg2 : Value} {N M : PNet} (hq : w.heap[b]? = some (.cells #[vp, vg, .int .i64 N.out, vp2, vg2, .int .i64 M.out] 25 (0, 0)))
    (hp : BlocksAt w vp N.pre) (hg : GatesAt w vg N.gates) (hp2 : BlocksAt w vp2 M.pre) (hg2 : GatesAt w vg2 M.gates) : NetsRow w b [N, M] := by
  intro j K hj
  match j, hj with
  | 0, hj =>
    cases hj
    exact ⟨vp, vg, cell_row hq rfl, cell_row hq rfl, cell_row hq rfl, hp, hg⟩
  | 1, hj =>
    cases hj
    exact ⟨vp2, vg2, cell_row hq rfl, cell_row hq rfl, cell_row hq rfl, hp2, hg2⟩
  | j + 2, hj => simp at hj
set_option maxRecDepth 100000 in
set_option maxHeartbeats 2000000 in
theorem CircMays_any (v1 v2 : Value) (N M : PNet) (lit : Int) (w : World) (h1 : NetAt w v1 N) (h2 : NetAt w v2 M) (h64 : I64 lit)
    (hs1 : ∀ g ∈ N.gates, ShortG g) (hs2 : ∀ g ∈ M.gates, ShortG g) :
    Calls Try.prog 9 #[v1, v2, .int .i64 lit] w fun e w' => e = .returned (.bool true) ∧ Below w.heap.size w w' := by
  have hN := h1
  have hMM := h2
  obtain ⟨vp, vg, rfl, ho, hp, hgt⟩ := h1
  obtain ⟨vp2, vg2, rfl, ho2, hp2, hgt2⟩ := h2
  obtain ⟨Ap, cp, rfl, hlp, hcp⟩ := hp.form
  obtain ⟨Ag, cg, rfl, hlg, hcg⟩ := hgt.form
  obtain ⟨Ap2, cp2, rfl, -, -⟩ := hp2.form
  obtain ⟨Ag2, cg2, rfl, -, -⟩ := hgt2.form
  obtain ⟨w1, hw1, -, -, z1, hB1, q1⟩ := new_block w #[.slice Ap N.pre.length cp, .slice Ag N.gates.length cg, .int .i64 N.out] 25
  obtain ⟨w2, hw2, -, -, z2, hB12, q2⟩ := new_block w1 #[.slice Ap2 M.pre.length cp2, .slice Ag2 M.gates.length cg2, .int .i64 M.out] 25
  obtain ⟨w3, hw3, -, -, z3, hB23, q3⟩ := new_block w2 #[.slice Ap N.pre.length cp, .slice Ag N.gates.length cg, .int .i64 N.out, .slice Ap2 M.pre.length cp2, .slice Ag2 M.gates.length cg2, .int .i64 M.out] 25
  have hB02 := below_then hB1 hB1.size hB12
  have hB03 := below_then hB02 hB02.size hB23
  have rows : ∀ W, Below w3.heap.size w3 W → (W.cell? ⟨w.heap.size, 0, none⟩ = some (.slice Ap N.pre.length cp) ∧ W.cell? ⟨w.heap.size, 1, none⟩ = some (.slice Ag N.gates.length cg) ∧ W.cell? ⟨w.heap.size, 2, none⟩ = some (.int .i64 N.out)) ∧
      (W.cell? ⟨w1.heap.size, 0, none⟩ = some (.slice Ap2 M.pre.length cp2) ∧ W.cell? ⟨w1.heap.size, 1, none⟩ = some (.slice Ag2 M.gates.length cg2) ∧ W.cell? ⟨w1.heap.size, 2, none⟩ = some (.int .i64 M.out)) := fun W hW =>
    have k1 := row_below (row_below (row_below q1 hB12) hB23) hW
    have k2 := row_below (row_below q2 hB23) hW
    ⟨⟨cell_row k1 rfl, cell_row k1 rfl, cell_row k1 rfl⟩, ⟨cell_row k2 rfl, cell_row k2 rfl, cell_row k2 rfl⟩⟩
  have a0 := cell_row q1 (j := 0) (v := .slice Ap N.pre.length cp) rfl
  have a1 := cell_row q1 (j := 1) (v := .slice Ag N.gates.length cg) rfl
  have a2 := cell_row q1 (j := 2) (v := .int .i64 N.out) rfl
  rw [z1] at rows
  have u0 := keeps_below hB12 _ _ a0
  have u1 := keeps_below hB12 _ _ a1
  have u2 := keeps_below hB12 _ _ a2
  have t0 := cell_row q2 (j := 0) (v := .slice Ap2 M.pre.length cp2) rfl
  have t1 := cell_row q2 (j := 1) (v := .slice Ag2 M.gates.length cg2) rfl
  have t2 := cell_row q2 (j := 2) (v := .int .i64 M.out) rfl
  rw [z1] at t0 t1 t2
  have CG := great_any w2.heap.size 2 [N, M] w3 (nets_two q3 (hp.keep (keeps_below hB03)) (hgt.keep (keeps_below hB03)) (hp2.keep (keeps_below hB03)) (hgt2.keep (keeps_below hB03))) rfl (by omega) (by
    intro K hK
    simp only [List.mem_cons, List.not_mem_nil, or_false] at hK
    rcases hK with rfl | rfl
    · exact hs1
    · exact hs2)
  have eG : ([N, M].any fun N => manyP N.gates) = (manyP N.gates || manyP M.gates) := by simp
  rw [eG] at CG
  have CW := works_any
  clear eG q1 q2 q3 z2 z3 hs1 hs2 a0 a1 a2
  cases hm : (manyP N.gates || manyP M.gates) with
  | true =>
    rw [hm] at CG
    clear hm
    go_enter Try.func9, Try.ntmps9
    go_wp2_with (first | (go_at_call 11; refine CG.mono ?_; rintro e w4 ⟨rfl, hB4⟩) | (go_at_call 12; refine (CW _).mono ?_; rintro e w5 ⟨rfl, hB5⟩))
    go_ret
    exact ⟨rfl, below_then hB03 hB03.size (below_then hB4 hB4.size hB5)⟩
  | false =>
    rw [hm] at CG
    obtain ⟨hm1, hm2⟩ : manyP N.gates = false ∧ manyP M.gates = false := by simpa using hm
    obtain ⟨hgl1, hls1⟩ := many_less hm1
    obtain ⟨hgl2, hls2⟩ := many_less hm2
    clear hm hm1 hm2
    have atN : ∀ W, Below w3.heap.size w3 W → NetAt W (.agg #[.slice Ap N.pre.length cp, .slice Ag N.gates.length cg, .int .i64 N.out]) N := fun W hW => hN.keep (keeps_below (below_then hB03 hB03.size hW))
    have atM : ∀ W, Below w3.heap.size w3 W → NetAt W (.agg #[.slice Ap2 M.pre.length cp2, .slice Ag2 M.gates.length cg2, .int .i64 M.out]) M := fun W hW => hMM.keep (keeps_below (below_then hB03 hB03.size hW))
    go_enter Try.func9, Try.ntmps9
    go_wp2_with fail
    refine CG.mono ?_
    rintro e w4 ⟨rfl, hB4⟩
    obtain ⟨⟨x0, x1, x2⟩, -⟩ := rows w4 hB4
    have C28 := Support_any _ N lit w4 (atN _ hB4) h64 (by omega) (by omega)
    clear CG t0 t1 t2 u0 u1 u2
    go_wp2_with fail
    refine C28.mono ?_
    rintro e w5 ⟨hB5, vS, rfl, hIS⟩
    have hB35 := below_then hB4 hB4.size hB5
    have C35 := SupportR_any _ N lit w5 (atN _ hB35) h64 (by omega) (by omega)
    clear C28 x0 x1 x2
    obtain ⟨⟨x0, x1, x2⟩, -⟩ := rows w5 hB35
    go_wp2_with fail
    refine C35.mono ?_
    rintro e w6 ⟨hB6, vT, rfl, hIT⟩
    have hB36 := below_then hB35 hB35.size hB6
    have hIS6 := hIS.keep (keeps_below hB6)
    obtain ⟨AS, cS, rfl, -, -⟩ := hIS6.form
    obtain ⟨AT, cT, rfl, -, -⟩ := hIT.form
    clear C35 x0 x1 x2 hB4 hB5 hB6 hB35 hIS
    obtain ⟨⟨x0, x1, x2⟩, ⟨y0, y1, y2⟩⟩ := rows w6 hB36
    have up : ∀ p, Below w3.heap.size w3 (since w6 p) := fun p => below_then hB36 hB36.size (since_below w6 p)
    have C36 := fun p => May_any _ N (since w6 p) (atN _ (up p)) (by omega)
    have C18 := fun p => MayR_any _ N (since w6 p) (atN _ (up p)) hls1 hgl1
    have C37 := fun p => SameC_any _ _ N M (since w6 p) (atN _ (up p)) (atM _ (up p))
    have C17 := fun p => SameR_any _ _ N M (since w6 p) (atN _ (up p)) (atM _ (up p))
    have C37a := fun p => SameC_any _ _ N N (since w6 p) (atN _ (up p)) (atN _ (up p))
    have C38 := fun p => Ints_any _ _ _ _ (since w6 p) (hIS6.keep (keeps_below (since_below w6 p))) (hIT.keep (keeps_below (since_below w6 p)))
    have C12 := fun p => CW (since w6 p)
    have s0 := fun p => cell_since x0 p
    have s1 := fun p => cell_since x1 p
    have s2 := fun p => cell_since x2 p
    have r0 := fun p => cell_since y0 p
    have r1 := fun p => cell_since y1 p
    have r2 := fun p => cell_since y2 p
    have e1 : decide (N = N) = true := by simp
    have e2 : decide ((supportP N lit).1 = (supportP N lit).1) = true := by simp
    rw [e1] at C37a
    rw [e2] at C38
    clear e1 e2 x0 x1 x2 y0 y1 y2 rows up CW hIS6 hIT
    generalize mayP N = bm at C36 C18
    generalize decide (N = M) = bs at C37 C17
    go_wp2_with fail
    refine region_quiet (by kernel_rfl) (by kernel_rfl) ?_
    repeat (first | go_big_quiet_step (first | (go_at_call 36; exact calls_since (C36 _)) | (go_at_call 18; exact calls_since (C18 _)) | (go_at_call 17; exact calls_since (C17 _)) | (go_at_call 38; exact calls_since (C38 _)) | (go_at_call 12; exact calls_since (C12 _)) | (go_at_call 37; with_reducible exact calls_since (C37 _)) | (go_at_call 37; with_reducible exact calls_since (C37a _))) | quiet_step (first | (go_at_call 36; exact calls_since (C36 _)) | (go_at_call 18; exact calls_since (C18 _)) | (go_at_call 17; exact calls_since (C17 _)) | (go_at_call 38; exact calls_since (C38 _)) | (go_at_call 12; exact calls_since (C12 _)) | (go_at_call 37; with_reducible exact calls_since (C37 _)) | (go_at_call 37; with_reducible exact calls_since (C37a _))))
    refine wpQuiet_nil ?_
    rintro W2 ⟨pw, hW2⟩
    have hB2 : Below w6.heap.size w6 W2 := by rw [hW2]; exact since_below w6 pw
    clear hW2
    go_wp2_with fail
    go_ret
    exact ⟨rfl, below_then hB03 hB03.size (below_then hB36 hB36.size hB2)⟩
end Go.Proofs.Ytnlobmepajakcaa
