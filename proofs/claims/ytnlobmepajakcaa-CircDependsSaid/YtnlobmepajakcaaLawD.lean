/- What the law CircDepends does: it returns true; the conditions: the arguments read as data, each gate has at most 2^44 literals. -/
import Derived.Test.YtnlobmepajakcaaSupp
import Derived.Test.YtnlobmepajakcaaOver
import Derived.Test.YtnlobmepajakcaaSemD
import Derived.Test.YtnlobmepajakcaaWorks
import Derived.Test.YtnlobmepajakcaaOpen
set_option linter.unusedVariables false
set_option linter.unusedSimpArgs false
namespace Go.Proofs.Ytnlobmepajakcaa
open Go.RowKit Go.Shelf

theorem many_small {gs : List PGate} (h : manyP gs = false) : gs.length ≤ 300 ∧ litSum gs ≤ 1500 := by
  unfold manyP at h
  simp at h
  exact h
theorem nets_one {w : World} {b : Nat} {vp vg : Value} {N : PNet} (hq : w.heap[b]? = some (.cells #[vp, vg, .int .i64 N.out] 25 (0, 0))) (hp : BlocksAt w vp N.pre) (hg : GatesAt w vg N.gates) : NetsRow w b [N] := by
  intro j M hj
  match j, hj with
  | 0, hj =>
    cases hj
    exact ⟨vp, vg, cell_row hq rfl, cell_row hq rfl, cell_row hq rfl, hp, hg⟩
  | j + 1, hj => simp at hj
theorem foldV_len : ∀ (l out : List Int), (l.foldl insV out).length ≤ out.length + l.length
  | [], out => by simp
  | x :: l, out => by have := foldV_len l (insV out x); have := insV_len out x; simp only [List.foldl_cons, List.length_cons]; omega
theorem within_len (a vars : List Int) : (withinP a vars).length ≤ a.length := by
  have := foldV_len ((a.filter fun x => decide (absI x ∈ vars)) ++ []) []
  have h2 := List.length_filter_le (fun x => decide (absI x ∈ vars)) a
  unfold withinP overP
  simp at this ⊢
  omega
theorem outside_len (b l : List Int) : (outside b l).length ≤ b.length := List.length_filter_le _ _
theorem outside_take {b l : List Int} {j : Nat} {x : Int} (h : b[j]? = some x) : outside (b.take (j + 1)) l = if absR x ∈ l then outside (b.take j) l else outside (b.take j) l ++ [x] := by
  unfold outside
  rw [take_snoc h, List.filter_append]
  by_cases hx : absR x ∈ l <;> simp [hx]
set_option maxRecDepth 100000 in
set_option maxHeartbeats 2000000 in
theorem CircDepends_any (v va vb : Value) (N : PNet) (lit : Int) (a b : List Int) (w : World) (h : NetAt w v N) (h64 : I64 lit) (ha : IntsAt w va a) (hb : IntsAt w vb b) (hs : ∀ g ∈ N.gates, ShortG g) :
    Calls Try.prog 6 #[v, .int .i64 lit, va, vb] w fun e w' => e = .returned (.bool true) ∧ Below w.heap.size w w' := by
  have hN := h
  obtain ⟨vp, vg, rfl, ho, hp, hgt⟩ := h
  obtain ⟨Ap, cp, rfl, hlp, hcp⟩ := hp.form
  obtain ⟨Ag, cg, rfl, hlg, hcg⟩ := hgt.form
  obtain ⟨Aa, ca, rfl, hla, hca⟩ := ha.form
  obtain ⟨Ab, cb, rfl, hlb, hcb⟩ := hb.form
  obtain ⟨w1, hw1, -, -, z1, hB1, q1⟩ := new_block w #[.slice Ap N.pre.length cp, .slice Ag N.gates.length cg, .int .i64 N.out] 25
  obtain ⟨w2, hw2, -, -, z2, hB12, q2⟩ := new_block w1 #[.slice Ap N.pre.length cp, .slice Ag N.gates.length cg, .int .i64 N.out] 25
  have hB02 := below_then hB1 hB1.size hB12
  have rows : ∀ W, Below w2.heap.size w2 W → W.cell? ⟨w.heap.size, 0, none⟩ = some (.slice Ap N.pre.length cp) ∧ W.cell? ⟨w.heap.size, 1, none⟩ = some (.slice Ag N.gates.length cg) ∧ W.cell? ⟨w.heap.size, 2, none⟩ = some (.int .i64 N.out) := fun W hW =>
    ⟨cell_row (row_below (row_below q1 hB12) hW) rfl, cell_row (row_below (row_below q1 hB12) hW) rfl, cell_row (row_below (row_below q1 hB12) hW) rfl⟩
  have rowb : ∀ W, Below w2.heap.size w2 W → W.heap[w.heap.size]? = some (.cells #[.slice Ap N.pre.length cp, .slice Ag N.gates.length cg, .int .i64 N.out] 25 (0, 0)) := fun W hW => row_below (row_below q1 hB12) hW
  have a0 := cell_row q1 (j := 0) (v := .slice Ap N.pre.length cp) rfl
  have a1 := cell_row q1 (j := 1) (v := .slice Ag N.gates.length cg) rfl
  have a2 := cell_row q1 (j := 2) (v := .int .i64 N.out) rfl
  have CG := great_any w1.heap.size 1 [N] w2 (nets_one q2 (hp.keep (keeps_below hB02)) (hgt.keep (keeps_below hB02))) rfl (by omega) (by intro M hM; rw [List.mem_singleton] at hM; subst hM; exact hs)
  have eG : ([N].any fun N => manyP N.gates) = manyP N.gates := by simp
  rw [eG, z1] at CG
  have CW := works_any
  have HQ := hid (And.intro q1 q2)
  clear eG q1 q2 hs
  cases hm : manyP N.gates with
  | true =>
    rw [hm] at CG
    clear hm
    go_enter Try.func6, Try.ntmps6
    go_wp2_with (first | (go_at_call 11; refine CG.mono ?_; rintro e w3 ⟨rfl, hB3⟩) | (go_at_call 12; refine (CW _).mono ?_; rintro e w4 ⟨rfl, hB4⟩))
    go_ret
    exact ⟨rfl, below_then hB02 hB02.size (below_then hB3 hB3.size hB4)⟩
  | false =>
    rw [hm] at CG
    obtain ⟨hgl, hls⟩ := many_small hm
    clear hm
    by_cases hlen : 2000 < a.length
    · have hz : (2000 : Int) < (a.length : Int) := by omega
      clear hlen
      go_enter Try.func6, Try.ntmps6
      go_wp2_with (first | (go_at_call 11; refine CG.mono ?_; rintro e w3 ⟨rfl, hB3⟩) | (go_at_call 12; refine (CW _).mono ?_; rintro e w4 ⟨rfl, hB4⟩))
      go_ret
      exact ⟨rfl, below_then hB02 hB02.size (below_then hB3 hB3.size hB4)⟩
    have hz : ¬ (2000 : Int) < (a.length : Int) := by omega
    by_cases hlen2 : 2000 < b.length
    · have hz2 : (2000 : Int) < (b.length : Int) := by omega
      clear hlen2 hlen
      go_enter Try.func6, Try.ntmps6
      go_wp2_with (first | (go_at_call 11; refine CG.mono ?_; rintro e w3 ⟨rfl, hB3⟩) | (go_at_call 12; refine (CW _).mono ?_; rintro e w4 ⟨rfl, hB4⟩))
      go_ret
      exact ⟨rfl, below_then hB02 hB02.size (below_then hB3 hB3.size hB4)⟩
    have hz2 : ¬ (2000 : Int) < (b.length : Int) := by omega
    have atN : ∀ W, Below w2.heap.size w2 W → NetAt W (.agg #[.slice Ap N.pre.length cp, .slice Ag N.gates.length cg, .int .i64 N.out]) N := fun W hW => hN.keep (keeps_below (below_then hB02 hB02.size hW))
    have C18 := fun W hW => MayR_any _ N W (atN W hW) hls hgl
    cases hmay : mayP N with
    | false =>
      rw [hmay] at C18
      clear hlen hlen2
      go_enter Try.func6, Try.ntmps6
      go_wp2_with (first | (go_at_call 11; refine CG.mono ?_; rintro e w3 ⟨rfl, hB3⟩; obtain ⟨b0, b1, b2⟩ := rows w3 hB3) | (go_at_call 18; refine (C18 _ hB3).mono ?_; rintro e w5 ⟨rfl, hB5⟩) | (go_at_call 12; refine (CW _).mono ?_; rintro e w6 ⟨rfl, hB6⟩))
      go_ret
      exact ⟨rfl, below_then hB02 hB02.size (below_then hB3 hB3.size (below_then hB5 hB5.size hB6))⟩
    | true =>
      rw [hmay] at C18
      have HLEN := hid (And.intro hlen hlen2)
      clear hlen hlen2
      go_enter Try.func6, Try.ntmps6
      go_wp2_with (go_at_call 11; refine CG.mono ?_; rintro e w3 ⟨rfl, hB3⟩; obtain ⟨b0, b1, b2⟩ := rows w3 hB3)
      refine (C18 _ hB3).mono ?_
      rintro e w4 ⟨rfl, hB4⟩
      have hB24 := below_then hB3 hB3.size hB4
      clear b0 b1 b2 a0 a1 a2 CG
      obtain ⟨b0, b1, b2⟩ := rows w4 hB24
      have C28 := Support_own _ N lit w4 (atN _ hB24) h64 (by omega) (by omega)
      clear C18 hB3 hB4
      go_wp2_with fail
      refine C28.mono ?_
      rintro e w5 ⟨hB5, vS, rfl, hIS, hSO⟩
      have hB25 := below_then hB24 hB24.size hB5
      have hB05 := below_then hB02 hB02.size hB25
      have r5 := rowb w5 hB25
      have hsz24 := hB24.size
      obtain ⟨AS, cS, rfl, -, -⟩ := hIS.form
      clear C28 b0 b1 b2
      obtain ⟨b0, b1, b2⟩ := rows w5 hB25
      have hfr := frozen_of_row _ _ 2 _ _ r5
      have r6 := row_set r5 (i := 2) (.int .i64 lit)
      have hG6 := grown_setCell w5 ⟨w.heap.size, 2, none⟩ (.int .i64 lit)
      have hB06 : Below w.heap.size w (w5.setCell ⟨w.heap.size, 2, none⟩ (.int .i64 lit)) := hB05.setCell (p := ⟨w.heap.size, 2, none⟩) (Nat.le_refl _) _
      have hs12 : w.heap.size < w2.heap.size := by omega
      have hIS6 := hIS.keptP hG6 (fun _ q hq e => by have := hSO q hq; have := Option.some.inj e; simp only at this; omega)
      have r6' : (w5.setCell ⟨w.heap.size, 2, none⟩ (.int .i64 lit)).heap[w.heap.size]? = some (.cells #[.slice Ap N.pre.length cp, .slice Ag N.gates.length cg, .int .i64 lit] 25 (0, 0)) := r6
      have x0 := cell_row r6' (j := 0) (v := .slice Ap N.pre.length cp) rfl
      have x1 := cell_row r6' (j := 1) (v := .slice Ag N.gates.length cg) rfl
      have x2 := cell_row r6' (j := 2) (v := .int .i64 lit) rfl
      clear hIS hSO r5 r6 hG6 hB5 hB25 hB24 rows rowb hB05
      go_wp2_with fail
      revert hIS6 hB06 r6' x0 x1 x2
      generalize w5.setCell ⟨w.heap.size, 2, none⟩ (.int .i64 lit) = w6
      intro hB06 hIS6 r6' x0 x1 x2
      have atN' : ∀ W, Below w6.heap.size w6 W → NetAt W (.agg #[.slice Ap N.pre.length cp, .slice Ag N.gates.length cg, .int .i64 lit]) ⟨N.pre, N.gates, lit⟩ := fun W hW =>
        have hk := keeps_below (below_then hB06 hB06.size hW)
        ⟨_, _, rfl, h64, hp.keep hk, hgt.keep hk⟩
      have C18 := MayR_any _ ⟨N.pre, N.gates, lit⟩ w6 (atN' _ (Below.refl _ _)) hls hgl
      rw [may_lit hmay] at C18
      clear b0 b1 b2 hfr
      refine C18.mono ?_
      rintro e w7 ⟨rfl, hB7⟩
      clear C18 x0 x1 x2
      have x0 := cell_row (row_below r6' hB7) (j := 0) (v := .slice Ap N.pre.length cp) rfl
      have x1 := cell_row (row_below r6' hB7) (j := 1) (v := .slice Ag N.gates.length cg) rfl
      have x2 := cell_row (row_below r6' hB7) (j := 2) (v := .int .i64 lit) rfl
      have hB07 := below_then hB06 hB06.size hB7
      cases hl : usedG (preS N) N.gates (absN lit) with
      | false =>
        have e2 : supportP N lit = ([], 6) := by unfold supportP; rw [if_neg (by rw [hmay]; simp), if_pos hl]
        rw [e2]
        clear e2 hl
        go_wp2_with (go_at_call 12; refine (CW _).mono ?_; rintro e w8 ⟨rfl, hB8⟩)
        go_ret
        exact ⟨rfl, below_then hB07 hB07.size hB8⟩
      | true =>
        obtain ⟨L, hL⟩ : ∃ L, supL (reachT (upd noS (absN lit) true) N.gates.reverse) (preS N) = L := ⟨_, rfl⟩
        have e2 : supportP N lit = (L, 0) := by unfold supportP; rw [if_neg (by rw [hmay]; simp), if_neg (by rw [hl]; simp), hL]
        have hps := mayP_some hmay
        obtain ⟨hr1, hr2⟩ := pre_rng hps
        have hne := alt_ne (preS_of hps).1
        have hLv : ∀ x ∈ L, x ∈ varsOf N.pre := fun x hx => by
          rw [← hL] at hx
          obtain ⟨i, rfl, -, -, h2⟩ := supL_mem.1 hx
          rw [preS_iff hps] at h2
          simpa using h2
        have hLs : L.Pairwise (· < ·) := by rw [← hL]; exact supL_up _ _
        have hAA := within_among hps a
        have hBB := within_among hps b
        have hlA := within_len a (varsOf N.pre)
        have hlB := within_len b (varsOf N.pre)
        obtain ⟨A, hA⟩ : ∃ A, withinP a (varsOf N.pre) = A := ⟨_, rfl⟩
        obtain ⟨B, hBx⟩ : ∃ B, withinP b (varsOf N.pre) = B := ⟨_, rfl⟩
        rw [hA] at hAA hlA
        rw [hBx] at hBB hlB
        have dep := depends hmay hl hAA hBB
        rw [e2] at hIS6 dep
        simp only at hIS6 dep
        obtain ⟨d1, d2⟩ := dep
        obtain ⟨bv, hbv⟩ : ∃ q, evalP ⟨N.pre, N.gates, lit⟩ A = (q, 0) := ⟨_, Prod.ext rfl d2⟩
        rw [hbv] at d1
        obtain ⟨Cc, hCc⟩ : ∃ Cc, outside B L = Cc := ⟨_, rfl⟩
        have hlC := outside_len B L
        rw [hCc] at d1 hlC
        have hIS7 := hIS6.keep (keeps_below hB7)
        have C19 := Vars_any _ N.pre w7 (hp.keep (keeps_below hB07)) hne (by omega)
        rw [e2]
        clear e2 hl hIS6 d2 hL
        go_wp2_with fail
        refine C19.mono ?_
        rintro e w8 ⟨vv, rfl, hOv, hB8⟩
        obtain ⟨Av, cv, rfl⟩ := own_shape hOv
        have hIv := ints_of_own hOv (fun y hy => by have := hr1 y hy; unfold I64; omega) (by omega)
        have hB08 := below_then hB07 hB07.size hB8
        have C20 := within_any (.slice Aa a.length ca) (.slice Av (varsOf N.pre).length cv) a (varsOf N.pre) w8 (ha.keep (keeps_below hB08)) hIv hr1 (by omega)
        rw [hA] at C20
        clear C19 hOv x0 x1 x2
        go_wp2_with fail
        refine C20.mono ?_
        rintro e w9 ⟨vA, rfl, hIA, hB9⟩
        have hB09 := below_then hB08 hB08.size hB9
        obtain ⟨AA, cA, rfl, -, -⟩ := hIA.form
        have C20b := within_any (.slice Ab b.length cb) (.slice Av (varsOf N.pre).length cv) b (varsOf N.pre) w9 (hb.keep (keeps_below hB09)) (hIv.keep (keeps_below hB9)) hr1 (by omega)
        rw [hBx] at C20b
        clear C20
        go_wp2_with fail
        refine C20b.mono ?_
        rintro e w10 ⟨vB, rfl, hIB, hB10⟩
        obtain ⟨AB, cB, rfl, -, -⟩ := hIB.form
        have hB010 := below_then hB09 hB09.size hB10
        have hB710 := below_then hB8 hB8.size (below_then hB9 hB9.size hB10)
        have hB610 := below_then hB7 hB7.size hB710
        have IS : ∀ W, Below w10.heap.size w10 W → IntsAt W (.slice AS L.length cS) L := fun W hW => (hIS7.keep (keeps_below hB710)).keep (keeps_below hW)
        have IA : ∀ W, Below w10.heap.size w10 W → IntsAt W (.slice AA A.length cA) A := fun W hW => (hIA.keep (keeps_below hB10)).keep (keeps_below hW)
        have IB : ∀ W, Below w10.heap.size w10 W → IntsAt W (.slice AB B.length cB) B := fun W hW => hIB.keep (keeps_below hW)
        have IV : ∀ W, Below w10.heap.size w10 W → IntsAt W (.slice Av (varsOf N.pre).length cv) (varsOf N.pre) := fun W hW => ((hIv.keep (keeps_below hB9)).keep (keeps_below hB10)).keep (keeps_below hW)
        have r10 := row_below r6' hB610
        have rowz : ∀ W, Below w10.heap.size w10 W → W.cell? ⟨w.heap.size, 0, none⟩ = some (.slice Ap N.pre.length cp) ∧ W.cell? ⟨w.heap.size, 1, none⟩ = some (.slice Ag N.gates.length cg) ∧ W.cell? ⟨w.heap.size, 2, none⟩ = some (.int .i64 lit) := fun W hW =>
          ⟨cell_row (row_below r10 hW) rfl, cell_row (row_below r10 hW) rfl, cell_row (row_below r10 hW) rfl⟩
        have HN := hid (And.intro hA hBx)
        clear C20b hIS7 hIA hIB hIv hB7 hB8 hB9 hB10 hB710 hA hBx hB09 hB08 hB07 r6' r10
        go_wp2_with fail
        go_loopg [12, 14, 72] B.length (fun gg s12 _ s72 wr => ∃ (j : Nat) (l : List Int) (Ao : Option Addr) (co : Nat), j ≤ B.length ∧ B.length - j ≤ gg ∧ s72 = .int .i64 j ∧ s12 = .slice Ao l.length co ∧ Below w10.heap.size w10 wr ∧ wr.ownsRow w10.heap.size 3 1 (.slice Ao l.length co) l.length (nums l) ∧ l.length ≤ j ∧ Aside (l = outside (B.take j) L))
        case atStart => exact ⟨0, [], none, 0, Nat.zero_le _, by omega, rfl, rfl, Below.refl _ _, World.ownsRow_nil _ _ _ _, Nat.le_refl _, by show ([] : List Int) = _; simp [outside]⟩
        case round =>
          obtain ⟨j, l, Ao, co, hj, hg, rfl, rfl, hB, hO, hlj, hT⟩ := hrel
          by_cases hlt : j < B.length
          · obtain ⟨x, hx, hxm, -⟩ := nth hlt
            obtain ⟨bx, ox, rfl, hcx, hx64⟩ := (IB wr hB).at_ j x hx
            have hltz : (j : Int) < (B.length : Int) := by omega
            have CA := absR_any x wr hx64
            have CI := In_any (.slice AS L.length cS) L (absR x) wr (IS wr hB)
            have hbs := hB.size
            have hot := outside_take (l := L) hx
            have hT' : l = outside (B.take j) L := hT
            rw [← hT'] at hot
            obtain ⟨r1, hr1⟩ : ∃ r, decide (absR x ∈ L) = r := ⟨_, rfl⟩
            rw [hr1] at CI
            have HT := hid (And.intro hot hr1)
            have HX := hid hx64
            clear hT hT' hx hxm hot hr1 hx64
            cases r1 with
            | true =>
              go_wp2_with (first | (go_at_call 30; refine CA.mono ?_; rintro e w' ⟨rfl, hw⟩; obtain rfl : wr = w' := hw.symm) | (go_at_call 29; refine CI.mono ?_; rintro e w' ⟨rfl, hw⟩; obtain rfl : wr = w' := hw.symm))
              go_roundg (B.length - (j + 1))
              case measure => omega
              case rel => exact ⟨j + 1, l, Ao, co, by omega, by omega, by go_num, rfl, hB, hO, by omega, by have := HT.out.1; rw [if_pos (of_decide_eq_true HT.out.2)] at this; exact this.symm⟩
            | false =>
              go_wp2_with (first | (go_at_call 30; refine CA.mono ?_; rintro e w' ⟨rfl, hw⟩; obtain rfl : wr = w' := hw.symm) | (go_at_call 29; refine CI.mono ?_; rintro e w' ⟨rfl, hw⟩; obtain rfl : wr = w' := hw.symm) | (at_builtin; refine append_one w10.heap.size rfl _ _ 26 3 (.int .i64 0) 1 8 rfl Try.underlying26 info3 rfl (by decide) (by decide) (.slice Ao l.length co) l.length (nums l) #[.int .i64 x] rfl rfl rfl (by intro u hu; simp at hu; subst hu; rfl) hO hbs (by omega) ?_; intro g' cap w5 hO5 hG5 hg5 hbg hlt5))
              rw [nums_snoc] at hO5
              go_roundg (B.length - (j + 1))
              case measure => omega
              case rel => exact ⟨j + 1, l ++ [x], some ⟨g', 0, none⟩, cap, by omega, by omega, by go_num, by simp, hB.grown hG5 hB.size (fun r e => (hO.lt r e).1), by simpa using hO5, by simp; omega, by have := HT.out.1; rw [if_neg (of_decide_eq_false HT.out.2)] at this; exact this.symm⟩
          · have hltz : ¬ (j : Int) < (B.length : Int) := by omega
            have e : l = Cc := by
              have e : l = outside (B.take j) L := hT
              rw [List.take_of_length_le (by omega), hCc] at e
              exact e
            subst e
            have hIC := ints_of_own2 hO (fun z hz => by
              have hz' : z ∈ outside B L := hCc.symm ▸ hz
              exact (IB wr hB).i64 z (List.mem_filter.1 hz').1)
            obtain ⟨x0, x1, x2⟩ := rowz wr hB
            have C21 := Eval_any _ (.slice AA A.length cA) ⟨N.pre, N.gates, lit⟩ A wr (atN' _ (below_then hB610 hB610.size hB)) (IA _ hB) (by simp only; omega)
            rw [hbv] at C21
            clear hT hO hlj hCc
            go_wp2_with fail
            refine C21.mono ?_
            rintro e w11 ⟨rfl, hB11⟩
            have hB1011 := below_then hB hB.size hB11
            have hIC11 := hIC.keep (keeps_below hB11)
            have KS : ∀ W, Below w10.heap.size w10 W → (Below w10.heap.size w10 W ∧ W.cell? ⟨w.heap.size, 0, none⟩ = some (.slice Ap N.pre.length cp) ∧ W.cell? ⟨w.heap.size, 1, none⟩ = some (.slice Ag N.gates.length cg) ∧ W.cell? ⟨w.heap.size, 2, none⟩ = some (.int .i64 lit)) := fun W hW => ⟨hW, rowz W hW⟩
            have hd11 : Below w10.heap.size w10 w11.drew := hB1011.drew
            have hIC11d : IntsAt w11.drew (.slice Ao l.length co) l := hIC11.keep (keeps_below ((Below.refl _ w11).drew))
            have C22 := over_any (.slice AA A.length cA) (.slice Ao l.length co) A l w11.drew (IA _ hd11) hIC11d (by have := HLEN.out; omega)
            obtain ⟨O, hOO⟩ : ∃ O, overP A l = O := ⟨_, rfl⟩
            rw [hOO] at C22 d1
            have CE := fun (vO : Value) (W : World) (hW : Below w10.heap.size w10 W) (hI : IntsAt W vO O) => Eval_any _ vO ⟨N.pre, N.gates, lit⟩ O W (atN' _ (below_then hB610 hB610.size hW)) hI (by simp only; omega)
            rw [d1] at CE
            clear C21 x0 x1 x2 hIC hIC11 hIC11d hB hB11
            go_wp2_with fail
            go_region_held3 (fun w' => Below w10.heap.size w10 w' ∧ w'.cell? ⟨w.heap.size, 0, none⟩ = some (.slice Ap N.pre.length cp) ∧ w'.cell? ⟨w.heap.size, 1, none⟩ = some (.slice Ag N.gates.length cg) ∧ w'.cell? ⟨w.heap.size, 2, none⟩ = some (.int .i64 lit)) (first | exact KS _ hd11 | exact KS _ (by assumption))
              (first | (go_at_call 22; refine C22.mono ?_; rintro e w16 ⟨vO, rfl, hIO, hB16⟩; have hB1016 := below_then hd11 hd11.size hB16; have C21 := CE vO w16 hB1016 hIO) | (go_at_call 21; refine C21.mono ?_; rintro e w17 ⟨rfl, hB17⟩; have hB1017 := below_then hB1016 hB1016.size hB17) | fail)
            clear C22 CE hd11 hB1011 hB16 hB17 hB1016 C21 hIO
            have hLl : L.length ≤ 9223372036854775807 := by
              obtain ⟨A', c', e, h1, h2, _⟩ := IS w10 (Below.refl _ _)
              omega
            go_wp2_with fail
            go_loopg [19, 20, 102] L.length (fun gg _ _ s102 wr => ∃ (j : Nat), j ≤ L.length ∧ L.length - j ≤ gg ∧ s102 = .int .i64 (j : Int) ∧ Below w10.heap.size w10 wr)
            case atStart => exact ⟨0, Nat.zero_le _, by omega, rfl, hB1017⟩
            case round =>
              clear hB1017
              obtain ⟨j, hj, hg, rfl, hB⟩ := hrel
              by_cases hlt : j < L.length
              · obtain ⟨x, hx, hxm, -⟩ := nth hlt
                obtain ⟨bx, ox, rfl, hcx, hx64⟩ := (IS wr hB).at_ j x hx
                have hltz : (j : Int) < (L.length : Int) := by omega
                have CI := In_any (.slice Av (varsOf N.pre).length cv) (varsOf N.pre) x wr (IV wr hB)
                rw [decide_eq_true (hLv x hxm)] at CI
                by_cases hj0 : j = 0
                · subst hj0
                  have hz0 : ((0 : Nat) : Int) = 0 := rfl
                  have hcx0 : wr.cell? ⟨bx, ox, none⟩ = some (.int .i64 x) := hcx
                  rw [hz0] at hltz ⊢
                  clear hx hxm hx64 hz0 hcx
                  go_wp2_with (first | (go_at_call 29; refine CI.mono ?_; rintro e w' ⟨rfl, hw⟩; obtain rfl : wr = w' := hw.symm) | fail)
                  go_roundg (L.length - 1)
                  case measure => omega
                  case rel => exact ⟨1, by omega, by omega, rfl, hB⟩
                · obtain ⟨m, hm⟩ : ∃ m, j = m + 1 := ⟨j - 1, by omega⟩
                  obtain ⟨y, hy, hym, -⟩ := nth (show m < L.length by omega)
                  obtain ⟨bx2, ox2, e2, hcy, -⟩ := (IS wr hB).at_ m y hy
                  cases e2
                  have hyx : y < x := by
                    have h1 := (List.getElem?_eq_some_iff.1 hy)
                    have h2 := (List.getElem?_eq_some_iff.1 hx)
                    obtain ⟨p1, q1⟩ := h1
                    obtain ⟨p2, q2⟩ := h2
                    rw [← q1, ← q2]
                    exact List.pairwise_iff_getElem.1 hLs m j p1 p2 (by omega)
                  have hge : decide (x ≤ y) = false := decide_eq_false (by omega)
                  have hks : IntKind.i64.wrap ((j : Int) - 1) = (m : Int) := by rw [IntWalk.i64_in _ (by omega)]; omega
                  have hk0 : 0 < (j : Int) := by omega
                  have hm0 : (m : Int) < (L.length : Int) := by omega
                  have HM := hid hm
                  clear hx hxm hx64 hy hym hyx hm hj0
                  go_wp2_with (first | (go_at_call 29; refine CI.mono ?_; rintro e w' ⟨rfl, hw⟩; obtain rfl : wr = w' := hw.symm) | fail)
                  go_roundg (L.length - (j + 1))
                  case measure => omega
                  case rel => exact ⟨j + 1, by omega, by omega, by go_num, hB⟩
              · have hltz : ¬ (j : Int) < (L.length : Int) := by omega
                go_wp2_with (go_at_call 12; refine (CW _).mono ?_; rintro e w18 ⟨rfl, hB18⟩)
                go_ret
                have hB018 := below_then hB06 hB06.size (below_then hB610 hB610.size (below_then hB hB.size hB18))
                exact ⟨rfl, hB018⟩
end Go.Proofs.Ytnlobmepajakcaa
