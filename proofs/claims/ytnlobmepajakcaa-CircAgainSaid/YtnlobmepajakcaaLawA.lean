/- What the law CircAgain does: it returns true; the conditions: the arguments read as data, each gate has at most 2^44 literals. -/
import Derived.Test.YtnlobmepajakcaaSwap
import Derived.Test.YtnlobmepajakcaaOrdC
import Derived.Test.YtnlobmepajakcaaOver
import Derived.Test.YtnlobmepajakcaaSame
import Derived.Test.YtnlobmepajakcaaOpen
set_option linter.unusedVariables false
set_option linter.unusedSimpArgs false
namespace Go.Proofs.Ytnlobmepajakcaa
open Go.RowKit Go.Shelf

theorem nets_at1 {w : World} {b : Nat} {vp vg : Value} {N : PNet} (hq : w.heap[b]? = some (.cells #[vp, vg, .int .i64 N.out] 25 (0, 0))) (hp : BlocksAt w vp N.pre) (hg : GatesAt w vg N.gates) : NetsRow w b [N] := by
  intro j M hj
  match j, hj with
  | 0, hj =>
    cases hj
    exact ⟨vp, vg, cell_row hq rfl, cell_row hq rfl, cell_row hq rfl, hp, hg⟩
  | j + 1, hj => simp at hj
theorem many_calm {gs : List PGate} (h : manyP gs = false) : gs.length ≤ 300 ∧ litSum gs ≤ 1500 := by
  unfold manyP at h
  simp at h
  exact h
set_option maxRecDepth 100000 in
set_option maxHeartbeats 2000000 in
theorem CircAgain_any (v vs va : Value) (N : PNet) (ss a : List Int) (w : World) (h : NetAt w v N) (hss : U16At w vs ss) (ha : IntsAt w va a) (hs : ∀ g ∈ N.gates, ShortG g) :
    Calls Try.prog 8 #[v, vs, va] w fun e w' => e = .returned (.bool true) ∧ Below w.heap.size w w' := by
  have hN := h
  obtain ⟨vp, vg, rfl, ho, hp, hgt⟩ := h
  obtain ⟨Ap, cp, rfl, hlp, hcp⟩ := hp.form
  obtain ⟨Ag, cg, rfl, hlg, hcg⟩ := hgt.form
  obtain ⟨Aa, ca, rfl, hla, hca⟩ := ha.form
  obtain ⟨As0, cs0, rfl, hls0, hcs0⟩ := hss.form
  obtain ⟨w1, hw1, -, -, z1, hB1, q1⟩ := new_block w #[.slice Ap N.pre.length cp, .slice Ag N.gates.length cg, .int .i64 N.out] 25
  obtain ⟨w2, hw2, -, -, z2, hB12, q2⟩ := new_block w1 #[.slice Ap N.pre.length cp, .slice Ag N.gates.length cg, .int .i64 N.out] 25
  have hB02 := below_then hB1 hB1.size hB12
  have rows : ∀ W, Below w2.heap.size w2 W → W.cell? ⟨w.heap.size, 0, none⟩ = some (.slice Ap N.pre.length cp) ∧ W.cell? ⟨w.heap.size, 1, none⟩ = some (.slice Ag N.gates.length cg) ∧ W.cell? ⟨w.heap.size, 2, none⟩ = some (.int .i64 N.out) := fun W hW =>
    ⟨cell_row (row_below (row_below q1 hB12) hW) rfl, cell_row (row_below (row_below q1 hB12) hW) rfl, cell_row (row_below (row_below q1 hB12) hW) rfl⟩
  have a0 := cell_row q1 (j := 0) (v := .slice Ap N.pre.length cp) rfl
  have a1 := cell_row q1 (j := 1) (v := .slice Ag N.gates.length cg) rfl
  have a2 := cell_row q1 (j := 2) (v := .int .i64 N.out) rfl
  have CG := great_any w1.heap.size 1 [N] w2 (nets_at1 q2 (hp.keep (keeps_below hB02)) (hgt.keep (keeps_below hB02))) rfl (by omega) (by intro M hM; rw [List.mem_singleton] at hM; subst hM; exact hs)
  have eG : ([N].any fun N => manyP N.gates) = manyP N.gates := by simp
  rw [eG, z1] at CG
  have CW := works_any
  have HQ := hid (And.intro q1 q2)
  clear eG q1 q2
  cases hm : manyP N.gates with
  | true =>
    rw [hm] at CG
    clear hm
    go_enter Try.func8, Try.ntmps8
    go_wp2_with (first | (go_at_call 11; refine CG.mono ?_; rintro e w3 ⟨rfl, hB3⟩) | (go_at_call 12; refine (CW _).mono ?_; rintro e w4 ⟨rfl, hB4⟩))
    go_ret
    exact ⟨rfl, below_then hB02 hB02.size (below_then hB3 hB3.size hB4)⟩
  | false =>
    rw [hm] at CG
    obtain ⟨hgl, hls⟩ := many_calm hm
    clear hm
    by_cases hlen : 300 < ss.length
    · have hz : (300 : Int) < (ss.length : Int) := by omega
      clear hlen
      go_enter Try.func8, Try.ntmps8
      go_wp2_with (first | (go_at_call 11; refine CG.mono ?_; rintro e w3 ⟨rfl, hB3⟩) | (go_at_call 12; refine (CW _).mono ?_; rintro e w4 ⟨rfl, hB4⟩))
      go_ret
      exact ⟨rfl, below_then hB02 hB02.size (below_then hB3 hB3.size hB4)⟩
    have hz : decide ((300 : Int) < (ss.length : Int)) = false := decide_eq_false (by omega)
    by_cases hlen2 : 2000 < a.length
    · have hz2 : (2000 : Int) < (a.length : Int) := by omega
      clear hlen2 hlen
      go_enter Try.func8, Try.ntmps8
      go_wp2_with (first | (go_at_call 11; refine CG.mono ?_; rintro e w3 ⟨rfl, hB3⟩) | (go_at_call 12; refine (CW _).mono ?_; rintro e w4 ⟨rfl, hB4⟩))
      go_ret
      exact ⟨rfl, below_then hB02 hB02.size (below_then hB3 hB3.size hB4)⟩
    have hz2 : decide ((2000 : Int) < (a.length : Int)) = false := decide_eq_false (by omega)
    have atN : ∀ W, Below w2.heap.size w2 W → NetAt W (.agg #[.slice Ap N.pre.length cp, .slice Ag N.gates.length cg, .int .i64 N.out]) N := fun W hW => hN.keep (keeps_below (below_then hB02 hB02.size hW))
    have C18 := fun W hW => MayR_any _ N W (atN W hW) hls hgl
    cases hmay : mayP N with
    | false =>
      rw [hmay] at C18
      clear hlen hlen2
      go_enter Try.func8, Try.ntmps8
      go_wp2_with (first | (go_at_call 11; refine CG.mono ?_; rintro e w4 ⟨rfl, hB4⟩; obtain ⟨b0, b1, b2⟩ := rows w4 hB4) | (go_at_call 18; refine (C18 _ hB4).mono ?_; rintro e w5 ⟨rfl, hB5⟩) | (go_at_call 12; refine (CW _).mono ?_; rintro e w6 ⟨rfl, hB6⟩))
      go_ret
      exact ⟨rfl, below_then hB02 hB02.size (below_then hB4 hB4.size (below_then hB5 hB5.size hB6))⟩
    | true =>
      rw [hmay] at C18
      have hps := mayP_some hmay
      obtain ⟨hr1, hr2⟩ := pre_rng hps
      have hne := alt_ne (preS_of hps).1
      have hAA := within_among hps a
      obtain ⟨A, hA⟩ : ∃ A, withinP a (varsOf N.pre) = A := ⟨_, rfl⟩
      rw [hA] at hAA
      obtain ⟨S, m1, m2, m3, m4, m5⟩ := again_all hmay
      obtain ⟨-, -, -, m6⟩ := means_simple hmay hAA
      have hgS : S.gates.length ≤ 300 := by omega
      have o1 := order_same hmay
      go_enter Try.func8, Try.ntmps8
      go_wp2_with (go_at_call 11; refine CG.mono ?_; rintro e w4 ⟨rfl, hB4⟩; obtain ⟨b0, b1, b2⟩ := rows w4 hB4)
      refine (C18 _ hB4).mono ?_
      rintro e w5 ⟨rfl, hB45⟩
      have hB5 := below_then hB4 hB4.size hB45
      clear b0 b1 b2 a0 a1 a2
      obtain ⟨x0, x1, x2⟩ := rows w5 hB5
      have C13 := Simple_any _ N w5 (atN _ hB5) (by omega) (by omega)
      rw [m1] at C13
      clear CG
      have HH := hid (And.intro hz (And.intro hz2 (And.intro hlen hlen2)))
      clear hB4 hB45 hz hz2 hlen hlen2
      go_wp2_with fail
      refine C13.mono ?_
      rintro e w6 ⟨hB56, vS, rfl, hFS⟩
      have hB6 := below_then hB5 hB5.size hB56
      obtain ⟨us, us', rfl, hus, hus1, hus2⟩ := hFS.at
      have hSat := hFS.at
      obtain ⟨As, cs, rfl, -, -⟩ := hus1.form
      obtain ⟨As', cs', rfl, -, -⟩ := hus2.form
      obtain ⟨w7, hw7, -, -, z7, hB67, q7⟩ := new_block w6 #[.slice As S.pre.length cs, .slice As' S.gates.length cs', .int .i64 S.out] 25
      have hB7 := below_then hB6 hB6.size hB67
      have atS : ∀ W, Below w7.heap.size w7 W → NetAt W (.agg #[.slice As S.pre.length cs, .slice As' S.gates.length cs', .int .i64 S.out]) S := fun W hW => (hSat.keep (keeps_below hB67)).keep (keeps_below hW)
      have C13 := Simple_any _ S w7 (atS _ (Below.refl _ _)) (by omega) (by omega)
      rw [m3] at C13
      have d0 := cell_row q7 (j := 0) (v := .slice As S.pre.length cs) rfl
      have d1 := cell_row q7 (j := 1) (v := .slice As' S.gates.length cs') rfl
      have d2 := cell_row q7 (j := 2) (v := .int .i64 S.out) rfl
      clear x0 x1 x2 hus hus1 hus2 hFS hB5 hB56
      go_wp2_with fail
      refine C13.mono ?_
      rintro e w8 ⟨hB78, vT, rfl, hFT⟩
      have hB8 := below_then hB7 hB7.size hB78
      obtain ⟨us, us', rfl, hus, hus1, hus2⟩ := hFT.at
      have hTat := hFT.at
      obtain ⟨At, ct, rfl, -, -⟩ := hus1.form
      obtain ⟨At', ct', rfl, -, -⟩ := hus2.form
      obtain ⟨w9, hw9, -, -, z9, hB89, q9⟩ := new_block w8 #[.slice At S.pre.length ct, .slice At' S.gates.length ct', .int .i64 S.out] 25
      have hB9 := below_then hB8 hB8.size hB89
      have hB79 := below_then hB78 hB78.size hB89
      obtain ⟨x0, x1, x2⟩ := rows w9 hB9
      have C19 := Vars_any _ N.pre w9 (hp.keep (keeps_below (below_then hB02 hB02.size hB9))) hne (by omega)
      clear C13 d0 d1 d2 hus hus1 hus2 hFT
      go_wp2_with fail
      refine C19.mono ?_
      rintro e w10 ⟨vv, rfl, hOv, hB910⟩
      obtain ⟨Av, cv, rfl⟩ := own_shape hOv
      have hIv := ints_of_own hOv (fun y hy => by have := hr1 y hy; unfold I64; omega) (by omega)
      have hB10 := below_then hB9 hB9.size hB910
      have C32 := Order_any _ _ _ N.gates w10 hIv (hgt.keep (keeps_below (below_then hB02 hB02.size hB10))) (by omega) (by omega)
      rw [o1] at C32
      clear C19 x0 x1 x2 hOv
      obtain ⟨x0, x1, x2⟩ := rows w10 hB10
      go_wp2_with fail
      refine C32.mono ?_
      rintro e w11 ⟨hB1011, v11, rfl, hv11, -⟩
      have hB11 := below_then hB10 hB10.size hB1011
      obtain ⟨A11, c11, rfl, -, -⟩ := hv11.form
      clear C32 x0 x1 x2
      obtain ⟨x0, x1, x2⟩ := rows w11 hB11
      have hB911 := below_then hB910 hB910.size hB1011
      have hB711 := below_then hB79 hB79.size hB911
      have upT := below_then hB89 hB89.size hB911
      have C18S := fun W (hW : Below w11.heap.size w11 W) => MayR_any _ S W (atS _ (below_then hB711 hB711.size hW)) (by omega) hgS
      rw [m2] at C18S
      have C17 := fun W (hW : Below w11.heap.size w11 W) => SameR_any _ _ S S W (atS _ (below_then hB711 hB711.size hW)) (hTat.keep (keeps_below (below_then upT upT.size hW)))
      have C34 := fun W (hW : Below w11.heap.size w11 W) => SameGates_any _ _ N.gates N.gates W (hv11.keep (keeps_below hW)) (hgt.keep (keeps_below (below_then hB02 hB02.size (below_then hB11 hB11.size hW))))
      have e17 : decide (S = S) = true := by simp
      have e34 : decide (N.gates = N.gates) = true := by simp
      rw [e17] at C17
      rw [e34] at C34
      have q7' := row_below q7 hB711
      have q9' := row_below q9 hB911
      have all : ∀ W, Below w11.heap.size w11 W → (W.cell? ⟨w6.heap.size, 0, none⟩ = some (.slice As S.pre.length cs) ∧ W.cell? ⟨w6.heap.size, 1, none⟩ = some (.slice As' S.gates.length cs') ∧ W.cell? ⟨w6.heap.size, 2, none⟩ = some (.int .i64 S.out)) ∧
          (W.cell? ⟨w8.heap.size, 0, none⟩ = some (.slice At S.pre.length ct) ∧ W.cell? ⟨w8.heap.size, 1, none⟩ = some (.slice At' S.gates.length ct') ∧ W.cell? ⟨w8.heap.size, 2, none⟩ = some (.int .i64 S.out)) ∧
          W.cell? ⟨w.heap.size, 1, none⟩ = some (.slice Ag N.gates.length cg) := fun W hW =>
        ⟨⟨cell_row (row_below q7' hW) rfl, cell_row (row_below q7' hW) rfl, cell_row (row_below q7' hW) rfl⟩, ⟨cell_row (row_below q9' hW) rfl, cell_row (row_below q9' hW) rfl, cell_row (row_below q9' hW) rfl⟩, (rows _ (below_then hB11 hB11.size hW)).2.1⟩
      have CC := fun W (hW : Below w11.heap.size w11 W) => copy_gates W 23 (.slice Ag N.gates.length cg) N.gates (hgt.keep (keeps_below (below_then hB02 hB02.size (below_then hB11 hB11.size hW)))) (by omega)
      have hI11 := hIv.keep (keeps_below hB1011)
      have HQ2 := hid (And.intro q7 (And.intro q9 (And.intro q7' (And.intro q9' (And.intro hB67 (And.intro hB78 (And.intro hB89 (And.intro hB910 hB1011))))))))
      clear e17 e34 q7 q9 q7' q9' hB67 hB78 hB89 hB910 hB1011 hB79 x0 x1 x2
      clear upT hB911 hB711 hTat
      obtain ⟨⟨x0, x1, x2⟩, -⟩ := all w11 (Below.refl _ _)
      go_wp2_with (first | (go_at_call 18; refine (C18S _ (Below.refl _ _)).mono ?_; rintro e w12 ⟨rfl, hB12'⟩; obtain ⟨⟨s0, s1, s2⟩, ⟨t0, t1, t2⟩, -⟩ := all w12 hB12') | (go_at_call 17; refine (C17 _ hB12').mono ?_; rintro e w13 ⟨rfl, hB13'⟩; have hB13 := below_then hB12' hB12'.size hB13'; obtain ⟨-, -, r1⟩ := all w13 hB13) | (go_at_call 34; refine (C34 _ hB13).mono ?_; rintro e w14 ⟨rfl, hB14'⟩; have hB14 := below_then hB13 hB13.size hB14'; obtain ⟨A15, c15, w15, hap, hB1415, hRG⟩ := CC w14 hB14; have y1 := (all (w14.alloc (.cells #[] 70)) (hB14.alloc hB14.size _)).2.2) | (at_builtin; refine step_append_run rfl _ _ 23 rfl _ _ _ rfl rfl hap ?_) | fail)
      have hB15 := below_then hB14 hB14.size hB1415
      have HX := hid hap
      clear hap y1 hB12' hB13' hB13 hB14' x0 x1 x2 s0 s1 s2 t0 t1 t2 r1 C18S C17 C34
      go_loopg [16, 17, 18, 97] ss.length (fun gg _ _ _ s97 wr => ∃ (j : Nat) (l : List PGate), j ≤ ss.length ∧ ss.length - j ≤ gg ∧ s97 = .int .i64 j ∧ Below w14.heap.size w14 wr ∧ RowG w14 wr w14.heap.size (.slice A15 N.gates.length c15) l ∧ Aside (l.Perm N.gates))
      case atStart => exact ⟨0, N.gates, Nat.zero_le _, by omega, rfl, hB1415, hRG, List.Perm.refl _⟩
      case round =>
        obtain ⟨j, l, hj, hg, rfl, hB, hR, hperm⟩ := hrel
        by_cases hlt : j < ss.length
        · obtain ⟨x, hx, hxm, -⟩ := nth hlt
          have hB2 : Below w2.heap.size w2 wr := below_then (below_then hB11 hB11.size hB14) (below_then hB11 hB11.size hB14).size hB
          obtain ⟨bx, ox, rfl, hcx, hx0, hx1⟩ := (hss.keep (keeps_below (below_then hB02 hB02.size hB2))).at_ j x hx
          have hltz : (j : Int) < (ss.length : Int) := by omega
          by_cases hn : 0 < N.gates.length
          · have hnz : (0 : Int) < (N.gates.length : Int) := by omega
            have hll : l.length = N.gates.length := hperm.length_eq
            obtain ⟨g, rfl⟩ : ∃ g, A15 = some ⟨g, 0, none⟩ := by
              obtain ⟨es, h1, h2, h3⟩ := hR
              rcases h2.2 with ⟨e, k2⟩ | ⟨g, cap, cur, e, _⟩
              · omega
              · injection e with e1 _ _; exact ⟨g, e1⟩
            go_wp2_with fail
            refine region_quiet (by kernel_rfl) (by kernel_rfl) ?_
            repeat (first | go_big_quiet_step (fail) | quiet_step (fail))
            refine wpQuiet_nil ?_
            rintro wq ⟨pq, hq⟩
            have hBq : Below wr.heap.size wr wq := by rw [hq]; exact since_below wr pq
            clear hq
            obtain ⟨i, hi, hil⟩ : ∃ i : Nat, x % (N.gates.length : Int) = (i : Int) ∧ i < N.gates.length := ⟨(x % (N.gates.length : Int)).toNat, by have := Int.emod_nonneg x (show (N.gates.length : Int) ≠ 0 by omega); omega, by have := Int.emod_lt_of_pos x hnz; have := Int.emod_nonneg x (show (N.gates.length : Int) ≠ 0 by omega); omega⟩
            obtain ⟨k, hk, hkl⟩ : ∃ k : Nat, x / 256 % (N.gates.length : Int) = (k : Int) ∧ k < N.gates.length := ⟨(x / 256 % (N.gates.length : Int)).toNat, by have := Int.emod_nonneg (x / 256) (show (N.gates.length : Int) ≠ 0 by omega); omega, by have := Int.emod_lt_of_pos (x / 256) hnz; have := Int.emod_nonneg (x / 256) (show (N.gates.length : Int) ≠ 0 by omega); omega⟩
            rw [hi, hk]
            have hRq := hR.below hBq
            obtain ⟨ts, gi, gk, hO, htl, hti, htk, hRW⟩ := hRq.cells hll hil hkl
            obtain ⟨d0, d1, d2⟩ := row_cells hO htl hti
            obtain ⟨d3, d4, d5⟩ := row_cells hO htl htk
            obtain ⟨u1, e1, f0, c0, f1, c1, f2, c2, hO1, hG1⟩ := put_row gk hO htl hil
            obtain ⟨u2, e2, f3, c3, f4, c4, f5, c5, hO2, hG2⟩ := put_row gi hO1 (by rw [List.length_set]; exact htl) hkl
            have hRn := (hRW _ hO2).below (Below.refl _ _).drew
            have hgb := (hO.lt g rfl).1
            have hgl2 := (hO.lt g rfl).2
            clear hi hk hx hxm
            go_wp2_with fail
            refine wp_region_noPanic ?_
            refine wp_region_held_drew (S := fun _ => True) (by kernel_rfl) trivial (fun hHeld => ?_)
            refine wpAnyH_take (i := 0) (v := ?v0) rfl (by kernel_rfl) (by kernel_rfl) (by kernel_rfl) (fun _ _ _ h => h) (Or.inl ⟨by rfl, ?y0⟩) hHeld ?_
            case y0 => (intro w hSw; go_simp); with_reducible rfl
            try simp only [Act.put, List.setIfInBounds_toArray, List.set_cons_zero, List.set_cons_succ]
            refine wpAnyH_take (i := 1) (v := ?v1) rfl (by kernel_rfl) (by kernel_rfl) (by kernel_rfl) (fun _ _ _ h => h) (Or.inl ⟨by rfl, ?y1⟩) hHeld ?_
            case y1 => (intro w hSw; go_simp); with_reducible rfl
            try simp only [Act.put, List.setIfInBounds_toArray, List.set_cons_zero, List.set_cons_succ]
            refine wpAnyH_take (i := 2) (v := ?v2) rfl (by kernel_rfl) (by kernel_rfl) (by kernel_rfl) (fun _ _ _ h => h) (Or.inl ⟨by rfl, ?y2⟩) hHeld ?_
            case y2 => (intro w hSw; go_simp); with_reducible rfl
            try simp only [Act.put, List.setIfInBounds_toArray, List.set_cons_zero, List.set_cons_succ]
            refine wpAnyH_take (i := 3) (v := ?v3) rfl (by kernel_rfl) (by kernel_rfl) (by kernel_rfl) (fun _ _ _ h => h) (Or.inl ⟨by rfl, ?y3⟩) hHeld ?_
            case y3 => (intro w hSw; go_simp); with_reducible rfl
            try simp only [Act.put, List.setIfInBounds_toArray, List.set_cons_zero, List.set_cons_succ]
            refine wpAnyH_take (i := 4) (v := ?v4) rfl (by kernel_rfl) (by kernel_rfl) (by kernel_rfl) (fun _ _ _ h => h) (Or.inl ⟨by rfl, ?y4⟩) hHeld ?_
            case y4 => (intro w hSw; go_simp); with_reducible rfl
            try simp only [Act.put, List.setIfInBounds_toArray, List.set_cons_zero, List.set_cons_succ]
            refine wpAnyH_take (i := 5) (v := ?v5) rfl (by kernel_rfl) (by kernel_rfl) (by kernel_rfl) (fun _ _ _ h => h) (Or.inl ⟨by rfl, ?y5⟩) hHeld ?_
            case y5 => (intro w hSw; go_simp); with_reducible rfl
            try simp only [Act.put, List.setIfInBounds_toArray, List.set_cons_zero, List.set_cons_succ]
            refine wpAnyH_take (i := 6) (v := ?v6) rfl (by kernel_rfl) (by kernel_rfl) (by kernel_rfl) (fun _ _ _ h => h) (Or.inl ⟨by rfl, ?y6⟩) hHeld ?_
            case y6 => (intro w hSw; go_simp); with_reducible rfl
            try simp only [Act.put, List.setIfInBounds_toArray, List.set_cons_zero, List.set_cons_succ]
            refine wpAnyH_take (i := 8) (v := ?v8) rfl (by kernel_rfl) (by kernel_rfl) (by kernel_rfl) (fun _ _ _ h => h) (Or.inl ⟨by rfl, ?y8⟩) hHeld ?_
            case y8 => (intro w hSw; go_simp); with_reducible rfl
            try simp only [Act.put, List.setIfInBounds_toArray, List.set_cons_zero, List.set_cons_succ]
            refine wpAnyH_take (i := 9) (v := ?v9) rfl (by kernel_rfl) (by kernel_rfl) (by kernel_rfl) (fun _ _ _ h => h) (Or.inl ⟨by rfl, ?y9⟩) hHeld ?_
            case y9 => (intro w hSw; go_simp); with_reducible rfl
            try simp only [Act.put, List.setIfInBounds_toArray, List.set_cons_zero, List.set_cons_succ]
            refine wpAnyH_take (i := 10) (v := ?v10) rfl (by kernel_rfl) (by kernel_rfl) (by kernel_rfl) (fun _ _ _ h => h) (Or.inl ⟨by rfl, ?y10⟩) hHeld ?_
            case y10 => (intro w hSw; go_simp); with_reducible rfl
            try simp only [Act.put, List.setIfInBounds_toArray, List.set_cons_zero, List.set_cons_succ]
            have END : True := trivial
            refine wpAnyH_ready (rs := [7, 11]) (by kernel_rfl) (by simp) ?_
            refine AllReadyH.cons rfl (fun K hK => ?_) (AllReadyH.cons rfl (fun K hK => ?_) AllReadyH.nil)
            · go_simp
              refine hK.out _ _ trivial (fun hHeld => ?_)
              clear hK K
              try simp only [Act.put, List.setIfInBounds_toArray, List.set_cons_zero, List.set_cons_succ]
              refine wpAnyH_ready (rs := [11]) (by kernel_rfl) (by simp) ?_
              refine AllReadyH.cons rfl (fun K hK => ?_) AllReadyH.nil
              go_simp
              refine hK.out _ _ trivial (fun hHeld => ?_)
              clear hK K
              try simp only [Act.put, List.setIfInBounds_toArray, List.set_cons_zero, List.set_cons_succ]
              refine wpAnyH_take (i := 12) (v := ?v12_7) rfl (by kernel_rfl) (by kernel_rfl) (by kernel_rfl) (fun _ _ _ h => h) (Or.inl ⟨by rfl, ?y12_7⟩) hHeld ?_
              case y12_7 => (intro w hSw; go_simp); with_reducible rfl
              try simp only [Act.put, List.setIfInBounds_toArray, List.set_cons_zero, List.set_cons_succ]
              refine wpAnyH_ready (rs := [13]) (by kernel_rfl) (by simp) ?_
              refine AllReadyH.cons rfl (fun K hK => ?_) AllReadyH.nil
              go_simp
              refine hK.out _ _ trivial (fun hHeld => ?_)
              clear hK K
              try simp only [Act.put, List.setIfInBounds_toArray, List.set_cons_zero, List.set_cons_succ]
              refine wpAnyH_take (i := 14) (v := ?v14_7) rfl (by kernel_rfl) (by kernel_rfl) (by kernel_rfl) (fun _ _ _ h => h) (Or.inl ⟨by rfl, ?y14_7⟩) hHeld ?_
              case y14_7 => (intro w hSw; go_simp); with_reducible rfl
              try simp only [Act.put, List.setIfInBounds_toArray, List.set_cons_zero, List.set_cons_succ]
              refine wpAnyH_ready (rs := [15]) (by kernel_rfl) (by simp) ?_
              refine AllReadyH.cons rfl (fun K hK => ?_) AllReadyH.nil
              go_simp
              refine hK.out _ _ trivial (fun hHeld => ?_)
              clear hK K
              try simp only [Act.put, List.setIfInBounds_toArray, List.set_cons_zero, List.set_cons_succ]
              refine wpAnyH_done (by kernel_rfl) ?_ _
              refine NoPanic.normal ?_
              go_wp2_with fail
              go_roundg (ss.length - (j + 1))
              case measure => omega
              case rel =>
                have hBz := below_then hB hB.size hBq
                have hg1 : ∀ r, (some g : Option Nat) = some r → w14.heap.size ≤ r := fun r e => by cases e; exact hgb
                exact ⟨j + 1, _, by omega, by omega, by go_num, ((hBz.grown hG1 hBz.size hg1).grown hG2 (hBz.grown hG1 hBz.size hg1).size hg1).drew, hRn, (swapL_perm l i k).trans hperm⟩
            · go_simp
              refine hK.out _ _ trivial (fun hHeld => ?_)
              clear hK K
              try simp only [Act.put, List.setIfInBounds_toArray, List.set_cons_zero, List.set_cons_succ]
              refine wpAnyH_ready (rs := [7]) (by kernel_rfl) (by simp) ?_
              refine AllReadyH.cons rfl (fun K hK => ?_) AllReadyH.nil
              go_simp
              refine hK.out _ _ trivial (fun hHeld => ?_)
              clear hK K
              try simp only [Act.put, List.setIfInBounds_toArray, List.set_cons_zero, List.set_cons_succ]
              refine wpAnyH_take (i := 12) (v := ?v12_11) rfl (by kernel_rfl) (by kernel_rfl) (by kernel_rfl) (fun _ _ _ h => h) (Or.inl ⟨by rfl, ?y12_11⟩) hHeld ?_
              case y12_11 => (intro w hSw; go_simp); with_reducible rfl
              try simp only [Act.put, List.setIfInBounds_toArray, List.set_cons_zero, List.set_cons_succ]
              refine wpAnyH_ready (rs := [13]) (by kernel_rfl) (by simp) ?_
              refine AllReadyH.cons rfl (fun K hK => ?_) AllReadyH.nil
              go_simp
              refine hK.out _ _ trivial (fun hHeld => ?_)
              clear hK K
              try simp only [Act.put, List.setIfInBounds_toArray, List.set_cons_zero, List.set_cons_succ]
              refine wpAnyH_take (i := 14) (v := ?v14_11) rfl (by kernel_rfl) (by kernel_rfl) (by kernel_rfl) (fun _ _ _ h => h) (Or.inl ⟨by rfl, ?y14_11⟩) hHeld ?_
              case y14_11 => (intro w hSw; go_simp); with_reducible rfl
              try simp only [Act.put, List.setIfInBounds_toArray, List.set_cons_zero, List.set_cons_succ]
              refine wpAnyH_ready (rs := [15]) (by kernel_rfl) (by simp) ?_
              refine AllReadyH.cons rfl (fun K hK => ?_) AllReadyH.nil
              go_simp
              refine hK.out _ _ trivial (fun hHeld => ?_)
              clear hK K
              try simp only [Act.put, List.setIfInBounds_toArray, List.set_cons_zero, List.set_cons_succ]
              refine wpAnyH_done (by kernel_rfl) ?_ _
              refine NoPanic.normal ?_
              go_wp2_with fail
              go_roundg (ss.length - (j + 1))
              case measure => omega
              case rel =>
                have hBz := below_then hB hB.size hBq
                have hg1 : ∀ r, (some g : Option Nat) = some r → w14.heap.size ≤ r := fun r e => by cases e; exact hgb
                exact ⟨j + 1, _, by omega, by omega, by go_num, ((hBz.grown hG1 hBz.size hg1).grown hG2 (hBz.grown hG1 hBz.size hg1).size hg1).drew, hRn, (swapL_perm l i k).trans hperm⟩
          · have hnz : decide ((0 : Int) < (N.gates.length : Int)) = false := decide_eq_false (by omega)
            clear hx hxm
            go_wp2_with fail
            go_roundg (ss.length - (j + 1))
            case measure => omega
            case rel => exact ⟨j + 1, l, by omega, by omega, by go_num, hB, hR, hperm⟩
        · obtain rfl : j = ss.length := by omega
          have hB2 : Below w2.heap.size w2 wr := below_then (below_then hB11 hB11.size hB14) (below_then hB11 hB11.size hB14).size hB
          clear hlt hg hj
          have hltz : ¬ (ss.length : Int) < (ss.length : Int) := by omega
          obtain ⟨o, p1, p2, p3, p4, p5⟩ := order_perm hmay hperm
          have hll : l.length = N.gates.length := hperm.length_eq
          have hG := hR.at (keeps_below hB)
          have C32 := Order_any (.slice Av (varsOf N.pre).length cv) (.slice A15 N.gates.length c15) (varsOf N.pre) l wr (hI11.keep (keeps_below (below_then hB14 hB14.size hB))) (hll ▸ hG) (by rw [litSum_perm hperm]; omega) (by omega)
          rw [p1] at C32
          have HP := hid (p2.trans hll)
          clear hltz p2 hll
          go_wp2_with fail
          refine C32.mono ?_
          rintro e w17 ⟨hB17, v17, rfl, hv17, -⟩
          have hB217 := below_then hB2 hB2.size hB17
          obtain ⟨A17, c17, rfl, -, -⟩ := hv17.form
          obtain ⟨x0, x1, x2⟩ := rows w17 hB217
          obtain ⟨w18, hw18, -, -, z18, hB1718, q18⟩ := new_block w17 #[.slice Ap N.pre.length cp, .slice A17 o.length c17, .int .i64 N.out] 25
          have hB218 := below_then hB217 hB217.size hB1718
          have hI18 := hI11.keep (keeps_below (below_then (below_then hB14 hB14.size hB) (below_then hB14 hB14.size hB).size (below_then hB17 hB17.size hB1718)))
          have C20 := within_any (.slice Aa a.length ca) (.slice Av (varsOf N.pre).length cv) a (varsOf N.pre) w18 (ha.keep (keeps_below (below_then hB02 hB02.size hB218))) hI18 hr1 (by have := HH.out.2.2.2; omega)
          rw [hA] at C20
          clear C32
          go_wp2_with fail
          refine C20.mono ?_
          rintro e w19 ⟨vA, rfl, hIA, hB1819⟩
          have hB219 := below_then hB218 hB218.size hB1819
          obtain ⟨AA, cA, rfl, -, -⟩ := hIA.form
          obtain ⟨b, hb⟩ : ∃ b, evalP N A = (b, 0) := ⟨_, Prod.ext rfl m6⟩
          have C21 := Eval_any _ (.slice AA A.length cA) N A w19 (atN _ hB219) hIA (by omega)
          rw [hb] at C21
          clear C20 x0 x1 x2
          obtain ⟨x0, x1, x2⟩ := rows w19 hB219
          go_wp2_with fail
          refine C21.mono ?_
          rintro e w20 ⟨rfl, hB1920⟩
          have hB220 := below_then hB219 hB219.size hB1920
          have hB1820 := below_then hB1819 hB1819.size hB1920
          have hM : NetAt w18 (.agg #[.slice Ap N.pre.length cp, .slice A17 o.length c17, .int .i64 N.out]) ⟨N.pre, o, N.out⟩ := ⟨_, _, rfl, ho, hp.keep (keeps_below (below_then hB02 hB02.size hB218)), hv17.keep (keeps_below hB1718)⟩
          have C21 := Eval_any _ (.slice AA A.length cA) ⟨N.pre, o, N.out⟩ A w20 (hM.keep (keeps_below hB1820)) (hIA.keep (keeps_below hB1920)) (by show litSum o ≤ _; rw [litSum_perm (p4.trans hperm)]; omega)
          rw [p5, hb] at C21
          have q20 := row_below q18 hB1820
          have d0 := cell_row q20 (j := 0) (v := .slice Ap N.pre.length cp) rfl
          have d1 := cell_row q20 (j := 1) (v := .slice A17 o.length c17) rfl
          have d2 := cell_row q20 (j := 2) (v := .int .i64 N.out) rfl
          clear x0 x1 x2 hw18
          go_wp2_with fail
          refine C21.mono ?_
          rintro e w21 ⟨rfl, hB2021⟩
          have hB221 := below_then hB220 hB220.size hB2021
          have hB1821 := below_then hB1820 hB1820.size hB2021
          have q21 := row_below q20 hB2021
          have x0 := cell_row q21 (j := 0) (v := .slice Ap N.pre.length cp) rfl
          have x1 := cell_row q21 (j := 1) (v := .slice A17 o.length c17) rfl
          have x2 := cell_row q21 (j := 2) (v := .int .i64 N.out) rfl
          have C18M := MayR_any _ ⟨N.pre, o, N.out⟩ w21 (hM.keep (keeps_below hB1821)) (by show litSum o ≤ _; rw [litSum_perm (p4.trans hperm)]; exact hls) (by show o.length ≤ _; rw [HP.out]; exact hgl)
          rw [p3] at C18M
          have hlo : ((o.length : Int) == (N.gates.length : Int)) = true := by rw [HP.out]; simp
          clear d0 d1 d2 q18 q20 q21
          go_wp2_with (first | (go_at_call 18; refine C18M.mono ?_; rintro e w22 ⟨rfl, hB22⟩) | (go_at_call 12; refine (CW _).mono ?_; rintro e w23 ⟨rfl, hB23⟩))
          go_ret
          exact ⟨rfl, below_then hB02 hB02.size (below_then hB221 hB221.size (below_then hB22 hB22.size hB23))⟩
end Go.Proofs.Ytnlobmepajakcaa
