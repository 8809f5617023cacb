/- The law's works returns true: the chapter's examples; no condition. -/
import Derived.Test.YtnlobmepajakcaaInts
set_option linter.unusedVariables false
set_option linter.unusedSimpArgs false
namespace Go.Proofs.Ytnlobmepajakcaa
open Go.RowKit Go.Shelf

theorem ev1 : evalP exN [1, 3] = (true, 0) := by decide +kernel
theorem ev2 : evalP exN [1, 2, 3] = (false, 0) := by decide +kernel
theorem ints_row {w : World} {g : Nat} {xs : List Int} {n : Nat} (h : w.heap[g]? = some (.cells (nums xs).toArray 3 (0, 0))) (hn : xs.length = n) (hx : ∀ x ∈ xs, I64 x) (hm : n ≤ 9223372036854775807) : IntsAt w (.slice (some ⟨g, 0, none⟩) n n) xs :=
  ⟨some ⟨g, 0, none⟩, n, by rw [hn], by omega, hm, fun _ => ⟨g, 0, rfl, fun j x hj => ⟨by
    refine cell_row h ?_
    rw [List.getElem?_toArray, Nat.zero_add, Nat.mul_one]
    unfold nums
    rw [List.getElem?_map, hj]; rfl, hx x (List.mem_of_getElem? hj)⟩⟩⟩
theorem blocks_row {w : World} {g n : Nat} {fr : Nat × Nat} (ps : List PBlock) (vs : List Value) (hl : vs.length = ps.length) (hn : ps.length = n) (hm : n ≤ 9223372036854775807) (h : w.heap[g]? = some (.cells (bcells ps vs).toArray 80 fr))
    (hi : ∀ (i : Nat) (p : PBlock) (v : Value), ps[i]? = some p → vs[i]? = some v → IntsAt w v p.vars) : BlocksAt w (.slice (some ⟨g, 0, none⟩) n n) ps :=
  ⟨some ⟨g, 0, none⟩, n, by rw [hn], by omega, hm, fun _ => ⟨g, 0, rfl, fun j x hj => by
    obtain ⟨k1, v, k2, k3⟩ := bcells_get ps vs j x hl hj
    rw [Nat.zero_add]
    exact ⟨cell_row h (by rw [List.getElem?_toArray]; exact k1), v, cell_row h (by rw [List.getElem?_toArray]; exact k3), hi j x v hj k2⟩⟩⟩
theorem gates_row {w : World} {g n : Nat} {fr : Nat × Nat} (gs : List PGate) (ts : List GT) (hl : ts.length = gs.length) (hn : gs.length = n) (hm : n ≤ 9223372036854775807) (h : w.heap[g]? = some (.cells (gcells ts).toArray 70 fr))
    (hi : ∀ (i : Nat) (t : GT) (x : PGate), ts[i]? = some t → gs[i]? = some x → t.1 = x.var ∧ t.2.1 = x.kind ∧ (I64 x.var ∧ 0 ≤ x.kind ∧ x.kind ≤ 255) ∧ IntsAt w (.slice t.2.2.1 t.2.2.2.1 t.2.2.2.2) x.ins) : GatesAt w (.slice (some ⟨g, 0, none⟩) n n) gs :=
  ⟨some ⟨g, 0, none⟩, n, by rw [hn], by omega, hm, fun _ => ⟨g, 0, rfl, fun j x hj => by
    obtain ⟨t, ht⟩ : ∃ t, ts[j]? = some t := ⟨_, List.getElem?_eq_getElem (by rw [hl]; exact (List.getElem?_eq_some_iff.1 hj).1)⟩
    obtain ⟨a1, a2, a3, a4⟩ := hi j t x ht hj
    have hc : ∀ r, r < 3 → w.cell? ⟨g, j * 3 + r, none⟩ = (enc3 t)[r]? := fun r hr => by
      rw [cell_of_row _ _ _ _ _ _ h, List.getElem?_toArray, gcells_get ts j r t ht hr]
    rw [Nat.zero_add]
    exact ⟨by rw [← a1]; exact hc 0 (by omega), by rw [← a2]; exact hc 1 (by omega), a3.1, a3.2.1, a3.2.2, _, hc 2 (by omega), a4⟩⟩⟩
set_option maxHeartbeats 2000000 in
theorem example_any (w : World) : Calls Try.prog 39 #[] w fun e w' => ∃ v, e = .returned v ∧ NetAt w' v exN ∧ Below w.heap.size w w' := by
  obtain ⟨w0, hw0, -, -, z0, B0, q0⟩ := new_block w #[.slice none 0 0, .slice none 0 0, .int .i64 0] 25
  obtain ⟨w1, hw1, -, -, z1, B1, q1⟩ := new_block w0 #[.int .i64 1] 3
  obtain ⟨w2, hw2, -, -, z2, B2, q2⟩ := new_block w1 #[.int .i64 2] 3
  obtain ⟨w3, hw3, -, -, z3, B3, q3⟩ := new_block w2 #[.int .i64 3] 3
  rw [z0] at z1 q1
  rw [z1] at z2 q2
  rw [z2] at z3 q3
  obtain ⟨w4, hw4, -, -, z4, B4, q4⟩ := new_block w3 #[.bool true, .slice (some ⟨w.heap.size + 1, 0, none⟩) 1 1, .bool false, .slice (some ⟨w.heap.size + 1 + 1, 0, none⟩) 1 1, .bool true, .slice (some ⟨w.heap.size + 1 + 1 + 1, 0, none⟩) 1 1] 80
  obtain ⟨w5, hw5, -, -, z5, B5, q5⟩ := new_block w4 #[.int .i64 1, .int .i64 (-2)] 3
  obtain ⟨w6, hw6, -, -, z6, B6, q6⟩ := new_block w5 #[.int .i64 4, .int .i64 3, .int .i64 (-3)] 3
  rw [z3] at z4 q4
  rw [z4] at z5 q5
  rw [z5] at z6 q6
  obtain ⟨w7, hw7, -, -, z7, B7, q7⟩ := new_block w6 #[.int .i64 4, .int .u8 1, .slice (some ⟨w.heap.size + 1 + 1 + 1 + 1 + 1, 0, none⟩) 2 2, .int .i64 5, .int .u8 4, .slice (some ⟨w.heap.size + 1 + 1 + 1 + 1 + 1 + 1, 0, none⟩) 3 3] 70
  rw [z6] at z7 q7
  have BB := below_then (below_then (below_then (below_then (below_then (below_then (below_then B0 B0.size B1) (by omega) B2) (by omega) B3) (by omega) B4) (by omega) B5) (by omega) B6) (by omega) B7
  have k57 := fun b o (h : w5.heap[b]? = some o) => row_below (row_below h B6) B7
  have k37 := fun b o (h : w3.heap[b]? = some o) => k57 b o (row_below (row_below h B4) B5)
  have k17 := fun b o (h : w1.heap[b]? = some o) => k37 b o (row_below (row_below h B2) B3)
  have r1 := k17 _ _ q1
  have r2 := k37 _ _ (row_below q2 B3)
  have r3 := k37 _ _ q3
  have r4 := k57 _ _ (row_below q4 B5)
  have r5 := k57 _ _ q5
  have r6 := row_below q6 B7
  have r0 := k17 _ _ (row_below q0 B1)
  clear q0 q1 q2 q3 q4 q5 q6 k57 k37 k17 B0 B1 B2 B3 B4 B5 B6 B7
  obtain ⟨f0, c0, f1, c1, f2, c2, rr, gg⟩ := put25 r0 (.slice (some ⟨w.heap.size + 1 + 1 + 1 + 1, 0, none⟩) 3 3) (.slice (some ⟨w.heap.size + 1 + 1 + 1 + 1 + 1 + 1 + 1, 0, none⟩) 2 2) (.int .i64 5)
  have hBF := BB.grown gg BB.size (fun r e => by injection e with e; omega)
  have kk := fun b o (h : w7.heap[b]? = some o) (hb : w.heap.size ≠ b) => row_grown h gg (by intro e; injection e with e; exact hb e)
  have s1 := kk _ _ r1 (by omega)
  have s2 := kk _ _ r2 (by omega)
  have s3 := kk _ _ r3 (by omega)
  have s4 := kk _ _ r4 (by omega)
  have s5 := kk _ _ r5 (by omega)
  have s6 := kk _ _ r6 (by omega)
  have s7 := kk _ _ q7 (by omega)
  clear kk r1 r2 r3 r4 r5 r6 q7 r0 gg BB
  go_enter Try.func39, Try.ntmps39
  go_wp2_with fail
  revert s1 s2 s3 s4 s5 s6 s7 rr hBF
  generalize ((w7.setCell ⟨w.heap.size, 0, none⟩ (.slice (some ⟨w.heap.size + 1 + 1 + 1 + 1, 0, none⟩) 3 3)).setCell ⟨w.heap.size, 1, none⟩ (.slice (some ⟨w.heap.size + 1 + 1 + 1 + 1 + 1 + 1 + 1, 0, none⟩) 2 2)).setCell ⟨w.heap.size, 2, none⟩ (.int .i64 5) = WF
  intro rr hBF s1 s2 s3 s4 s5 s6 s7
  refine bodyPost_ret (results_cell_row (p := 0) (ty := 25) rfl _ _ w.heap.size 25 _ (0, 0) _ rfl rr Try.underlying25 rfl (by kernel_rfl)) rfl ⟨_, rfl, ⟨_, _, rfl, ?_, ?_, ?_⟩, hBF⟩
  · unfold I64 exN; simp
  · refine blocks_row [⟨true, [1]⟩, ⟨false, [2]⟩, ⟨true, [3]⟩] [.slice (some ⟨w.heap.size + 1, 0, none⟩) 1 1, .slice (some ⟨w.heap.size + 1 + 1, 0, none⟩) 1 1, .slice (some ⟨w.heap.size + 1 + 1 + 1, 0, none⟩) 1 1] rfl rfl (by omega) s4 (fun i p v hp hv => ?_)
    match i, hp, hv with
    | 0, hp, hv => injection hp with hp; injection hv with hv; subst hp; subst hv; exact ints_row s1 rfl (by intro x hx; simp at hx; subst hx; unfold I64; omega) (by omega)
    | 1, hp, hv => injection hp with hp; injection hv with hv; subst hp; subst hv; exact ints_row s2 rfl (by intro x hx; simp at hx; subst hx; unfold I64; omega) (by omega)
    | 2, hp, hv => injection hp with hp; injection hv with hv; subst hp; subst hv; exact ints_row s3 rfl (by intro x hx; simp at hx; subst hx; unfold I64; omega) (by omega)
    | i + 3, hp, hv => simp at hp
  · refine gates_row [⟨4, 1, [1, -2]⟩, ⟨5, 4, [4, 3, -3]⟩] [(4, 1, some ⟨w.heap.size + 1 + 1 + 1 + 1 + 1, 0, none⟩, 2, 2), (5, 4, some ⟨w.heap.size + 1 + 1 + 1 + 1 + 1 + 1, 0, none⟩, 3, 3)] rfl rfl (by omega) s7 (fun i p v hp hv => ?_)
    match i, hp, hv with
    | 0, hp, hv => injection hp with hp; injection hv with hv; subst hp; subst hv; exact ⟨rfl, rfl, by unfold I64; simp, ints_row s5 rfl (by intro x hx; simp at hx; rcases hx with rfl | rfl <;> (unfold I64; omega)) (by simp)⟩
    | 1, hp, hv => injection hp with hp; injection hv with hv; subst hp; subst hv; exact ⟨rfl, rfl, by unfold I64; simp, ints_row s6 rfl (by intro x hx; simp at hx; rcases hx with rfl | rfl | rfl <;> (unfold I64; omega)) (by simp)⟩
    | i + 2, hp, hv => simp at hp

theorem i64s {xs : List Int} (h : xs.all (fun x => decide (-70000 ≤ x ∧ x ≤ 70000)) = true) : ∀ x ∈ xs, I64 x := fun x hx => by
  have := List.all_eq_true.1 h x hx
  have := of_decide_eq_true this
  unfold I64; omega
set_option maxRecDepth 100000 in
set_option maxHeartbeats 1000000 in
theorem works_any (w : World) : Calls Try.prog 12 #[] w fun e w' => e = .returned (.bool true) ∧ Below w.heap.size w w' := by
  go_enter Try.func12, Try.ntmps12
  go_wp2_with fail
  refine (example_any w).mono ?_
  rintro e w1 ⟨vN, rfl, hN, hB1⟩
  have hN' := hN
  obtain ⟨vp, vg, rfl, -, hp, hg⟩ := hN'
  obtain ⟨Ap, cp, rfl, -, -⟩ : ∃ A c, vp = .slice A 3 c ∧ 3 ≤ c ∧ c ≤ 9223372036854775807 := hp.form
  obtain ⟨Ag, cg, rfl, -, -⟩ : ∃ A c, vg = .slice A 2 c ∧ 2 ≤ c ∧ c ≤ 9223372036854775807 := hg.form
  have hN : NetAt w1 (.agg #[.slice Ap 3 cp, .slice Ag 2 cg, .int .i64 5]) exN := hN
  have hX : Value.int .i64 exN.out = .int .i64 5 := rfl
  rw [hX]
  clear hp hg hX
  obtain ⟨w2, hw2, -, -, z2, hB2, q2⟩ := new_block w1 #[.slice Ap 3 cp, .slice Ag 2 cg, .int .i64 5] 25
  have hB02 := below_then hB1 hB1.size hB2
  have rows : ∀ W, Below w2.heap.size w2 W → W.cell? ⟨w1.heap.size, 0, none⟩ = some (.slice Ap 3 cp) ∧ W.cell? ⟨w1.heap.size, 1, none⟩ = some (.slice Ag 2 cg) ∧ W.cell? ⟨w1.heap.size, 2, none⟩ = some (.int .i64 5) := fun W hW =>
    ⟨cell_row (row_below q2 hW) rfl, cell_row (row_below q2 hW) rfl, cell_row (row_below q2 hW) rfl⟩
  have nets : ∀ W, Below w2.heap.size w2 W → NetAt W (.agg #[.slice Ap 3 cp, .slice Ag 2 cg, .int .i64 5]) exN := fun W hW => hN.keep (keeps_below (below_then hB2 hB2.size hW))
  obtain ⟨a0, a1, a2⟩ := rows w2 (Below.refl _ _)
  obtain ⟨w3, hw3, -, -, z3, hB3, q3⟩ := new_block w2 #[.int .i64 1, .int .i64 3] 3
  rw [z2] at z3 q3
  have C1 := Eval_any _ _ exN [1, 3] w3 (nets w3 hB3) (ints_row (n := 2) q3 rfl (i64s rfl) (by omega)) (by decide)
  rw [ev1] at C1
  go_wp2_with fail
  refine C1.mono ?_
  rintro e w4 ⟨rfl, hB4⟩
  have hB24 := below_then hB3 hB3.size hB4
  obtain ⟨b0, b1, b2⟩ := rows w4 hB24
  obtain ⟨w5, hw5, -, -, z5, hB5, q5⟩ := new_block w4 #[.int .i64 1, .int .i64 2, .int .i64 3] 3
  have hB25 := below_then hB24 hB24.size hB5
  have C2 := Eval_any _ _ exN [1, 2, 3] w5 (nets w5 hB25) (ints_row (n := 3) q5 rfl (i64s rfl) (by omega)) (by decide)
  rw [ev2] at C2
  clear a0 a1 a2 C1 hw3 q3 z3 hB4 hB3
  go_wp2_with fail
  refine C2.mono ?_
  rintro e w6 ⟨rfl, hB6⟩
  have hB26 := below_then hB25 hB25.size hB6
  obtain ⟨c0, c1, c2⟩ := rows w6 hB26
  obtain ⟨w7, hw7, -, -, z7, hB7, q7⟩ := new_block w6 #[.int .i64 2] 3
  have hB27 := below_then hB26 hB26.size hB7
  have C3 := Cofactor_any _ _ exN [2] w7 (nets w7 hB27) (ints_row (n := 1) q7 rfl (i64s rfl) (by omega)) (by decide) (by decide)
  rw [ex1] at C3
  clear b0 b1 b2 C2 hw5 q5 z5 hB5 hB6 hB24 hB25
  go_wp2_with fail
  refine C3.mono ?_
  rintro e w8 ⟨hB8, vC, rfl, hFC⟩
  have hNC := hFC.at
  obtain ⟨vp, vg, rfl, -, hp, hg⟩ := hNC
  obtain ⟨Acp, ccp, rfl, -, -⟩ : ∃ A c, vp = .slice A 1 c ∧ 1 ≤ c ∧ c ≤ 9223372036854775807 := hp.form
  obtain ⟨Acg, ccg, rfl, -, -⟩ : ∃ A c, vg = .slice A 0 c ∧ 0 ≤ c ∧ c ≤ 9223372036854775807 := hg.form
  have hB28 := below_then hB27 hB27.size hB8
  clear hp hg c0 c1 c2 C3 hw7 q7 z7 hB7 hB8 hB26 hB27
  obtain ⟨w9, hw9, -, -, z9, hB9, q9⟩ := new_block w8 #[.slice Acp 1 ccp, .slice Acg 0 ccg, .int .i64 (-3)] 25
  have hB29 := below_then hB28 hB28.size hB9
  obtain ⟨c0, c1, c2⟩ := rows w9 hB29
  obtain ⟨wa, hwa, -, -, za, hBa, qa⟩ := new_block w9 #[.int .i64 (-2)] 3
  rw [z9] at qa za
  have hB2a := below_then hB29 hB29.size hBa
  have C4 := Cofactor_any _ _ exN [-2] wa (nets wa hB2a) (ints_row (n := 1) qa rfl (i64s rfl) (by omega)) (by decide) (by decide)
  rw [ex2] at C4
  go_wp2_with fail
  refine C4.mono ?_
  rintro e wb ⟨hBb, vD, rfl, hFD⟩
  have hND := hFD.at
  obtain ⟨vp, vg, rfl, -, hp, hg⟩ := hND
  obtain ⟨Adp, cdp, rfl, -, -⟩ : ∃ A c, vp = .slice A 1 c ∧ 1 ≤ c ∧ c ≤ 9223372036854775807 := hp.form
  obtain ⟨Adg, cdg, rfl, -, -⟩ : ∃ A c, vg = .slice A 1 c ∧ 1 ≤ c ∧ c ≤ 9223372036854775807 := hg.form
  have hB2b := below_then hB2a hB2a.size hBb
  have hB9b := below_then hBa hBa.size hBb
  clear hp hg c0 c1 c2 C4 hwa qa za hBa hBb
  obtain ⟨wc, hwc, -, -, zc, hBc, qc⟩ := new_block wb #[.slice Adp 1 cdp, .slice Adg 1 cdg, .int .i64 5] 25
  have hB2c := below_then hB2b hB2b.size hBc
  obtain ⟨c0, c1, c2⟩ := rows wc hB2c
  obtain ⟨wd, hwd, -, -, zd, hBd, qd⟩ := new_block wc #[.int .i64 2] 3
  rw [zc] at qd zd
  obtain ⟨we, hwe, -, -, ze, hBe, qe⟩ := new_block wd #[.bool false, .slice (some ⟨wb.heap.size + 1, 0, none⟩) 1 1] 80
  rw [zd] at qe ze
  obtain ⟨wf, hwf, -, -, zf, hBf, qf⟩ := new_block we #[.int .i64 2] 3
  rw [ze] at qf zf
  obtain ⟨wg, hwg, -, -, zg, hBg, qg⟩ := new_block wf #[.int .i64 9, .int .u8 2, .slice (some ⟨wb.heap.size + 1 + 1 + 1, 0, none⟩) 1 1] 70
  rw [zf] at qg zg
  have hBcg := below_then (below_then (below_then hBd (by omega) hBe) (by omega) hBf) (by omega) hBg
  have hB2g := below_then hB2c hB2c.size hBcg
  have hnM : NetAt wg (.agg #[.slice (some ⟨wb.heap.size + 1 + 1, 0, none⟩) 1 1, .slice (some ⟨wb.heap.size + 1 + 1 + 1 + 1, 0, none⟩) 1 1, .int .i64 (-9)]) exM := by
    refine ⟨_, _, rfl, by unfold I64 exM; simp, ?_, ?_⟩
    · refine blocks_row [⟨false, [2]⟩] [.slice (some ⟨wb.heap.size + 1, 0, none⟩) 1 1] rfl rfl (by omega) (row_below (row_below qe hBf) hBg) (fun i p v hp hv => ?_)
      match i, hp, hv with
      | 0, hp, hv => injection hp with hp; injection hv with hv; subst hp; subst hv; exact ints_row (n := 1) (row_below (row_below (row_below qd hBe) hBf) hBg) rfl (i64s rfl) (by omega)
      | i + 1, hp, hv => simp at hp
    · refine gates_row [⟨9, 2, [2]⟩] [(9, 2, some ⟨wb.heap.size + 1 + 1 + 1, 0, none⟩, 1, 1)] rfl rfl (by omega) qg (fun i p v hp hv => ?_)
      match i, hp, hv with
      | 0, hp, hv => injection hp with hp; injection hv with hv; subst hp; subst hv; exact ⟨rfl, rfl, by unfold I64; simp, ints_row (n := 1) (row_below qf hBg) rfl (i64s rfl) (by simp)⟩
      | i + 1, hp, hv => simp at hp
  have C5 := Compose_any _ _ exN exM 3 wg (nets wg hB2g) hnM (by unfold I64; omega) (by decide) (by decide) (by decide) (by decide)
  rw [ex3] at C5
  clear qd qe qf qg hnM
  go_wp2_with fail
  refine C5.mono ?_
  rintro e wh ⟨hBh, vM, rfl, hFM⟩
  have hNM := hFM.at
  obtain ⟨vp, vg, rfl, -, hp, hg⟩ := hNM
  obtain ⟨Amp, cmp, rfl, -, -⟩ : ∃ A c, vp = .slice A 2 c ∧ 2 ≤ c ∧ c ≤ 9223372036854775807 := hp.form
  obtain ⟨Amg, cmg, rfl, -, -⟩ : ∃ A c, vg = .slice A 3 c ∧ 3 ≤ c ∧ c ≤ 9223372036854775807 := hg.form
  have hBch := below_then hBcg hBcg.size hBh
  clear hp hg c0 c1 c2 C5 hwd hwe hwf hwg zd ze zf zg hBd hBe hBf hBg hBh hBcg hB2g
  obtain ⟨wi, hwi, -, -, zi, hBi, qi⟩ := new_block wh #[.slice Amp 2 cmp, .slice Amg 3 cmg, .int .i64 5] 25
  obtain ⟨wj, hwj, -, -, zj, hBj, qj⟩ := new_block wi #[.int .i64 1] 3
  rw [zi] at qj zj
  obtain ⟨wk, hwk, -, -, zk, hBk, qk⟩ := new_block wj #[.bool true, .slice (some ⟨wh.heap.size + 1, 0, none⟩) 1 1] 80
  rw [zj] at qk zk
  obtain ⟨wl, hwl, -, -, zl, hBl, ql⟩ := new_block wk #[.int .i64 7, .int .u8 1, .slice none 0 0] 70
  rw [zk] at ql zl
  have hnO : NetAt wl (.agg #[.slice (some ⟨wh.heap.size + 1 + 1, 0, none⟩) 1 1, .slice (some ⟨wh.heap.size + 1 + 1 + 1, 0, none⟩) 1 1, .int .i64 (-7)]) exO := by
    refine ⟨_, _, rfl, by unfold I64 exO; simp, ?_, gate_one ql (by unfold I64; omega)⟩
    refine blocks_row [⟨true, [1]⟩] [.slice (some ⟨wh.heap.size + 1, 0, none⟩) 1 1] rfl rfl (by omega) (row_below qk hBl) (fun i p v hp hv => ?_)
    match i, hp, hv with
    | 0, hp, hv => injection hp with hp; injection hv with hv; subst hp; subst hv; exact ints_row (n := 1) (row_below (row_below qj hBk) hBl) rfl (i64s rfl) (by omega)
    | i + 1, hp, hv => simp at hp
  have C6 := Simple_any _ exO wl hnO (by decide) (by decide)
  rw [ex4] at C6
  have hBil := below_then (below_then hBj (by omega) hBk) (by omega) hBl
  clear qj qk ql hnO
  go_wp2_with fail
  refine C6.mono ?_
  rintro e wm ⟨hBm, vO, rfl, hFO⟩
  have hNO := hFO.at
  obtain ⟨vp, vg, rfl, -, hp, hg⟩ := hNO
  obtain ⟨Aop, cop, rfl, -, -⟩ : ∃ A c, vp = .slice A 1 c ∧ 1 ≤ c ∧ c ≤ 9223372036854775807 := hp.form
  obtain ⟨Aog, cog, rfl, -, -⟩ : ∃ A c, vg = .slice A 1 c ∧ 1 ≤ c ∧ c ≤ 9223372036854775807 := hg.form
  have hBim := below_then hBil hBil.size hBm
  clear hp hg C6 hwj hwk hwl zj zk zl hBj hBk hBl hBil
  obtain ⟨wn, hwn, -, -, zn, hBn, qn⟩ := new_block wm #[.slice Aop 1 cop, .slice Aog 1 cog, .int .i64 (-2)] 25
  have hBin := below_then hBim hBim.size hBn
  have hBhn := below_then hBi (by omega) hBin
  have hBcn := below_then hBch hBch.size hBhn
  have hBbn := below_then hBc (by omega) hBcn
  have hB9n := below_then hB9b hB9b.size hBbn
  have hB8n := below_then hB9 (by omega) hB9n
  have hB2n := below_then hB29 hB29.size hB9n
  have hB0n := below_then hB02 hB02.size hB2n
  have rC := row_below q9 hB9n
  have rD := row_below qc hBcn
  have rM := row_below qi hBin
  have nC := hFC.at.keep (keeps_below hB8n)
  have nD := hFD.at.keep (keeps_below hBbn)
  have nM := hFM.at.keep (keeps_below hBhn)
  have nO := hFO.at.keep (keeps_below hBn)
  obtain ⟨vp, vg, e, -, hp, -⟩ := nC
  obtain ⟨rfl, rfl⟩ : .slice Acp 1 ccp = vp ∧ .slice Acg 0 ccg = vg := by injection e with e; simp at e; exact ⟨e.1, e.2⟩
  obtain ⟨bc, oc, vc, rfl, -, hc6, hc7⟩ := BlocksAt.at_ (n := 1) hp 0 ⟨true, [1, 3]⟩ rfl
  obtain ⟨Ac7, cc7, rfl, -, -⟩ : ∃ A c, vc = .slice A 2 c ∧ 2 ≤ c ∧ c ≤ 9223372036854775807 := hc7.form
  clear e hp
  obtain ⟨vp, vg, e, -, -, hg⟩ := nD
  obtain ⟨rfl, rfl⟩ : .slice Adp 1 cdp = vp ∧ .slice Adg 1 cdg = vg := by injection e with e; simp at e; exact ⟨e.1, e.2⟩
  obtain ⟨bd, od, vd, rfl, -, -, hd6, hd7, -⟩ := GatesAt.at_ (n := 1) hg 0 ⟨5, 4, [1, 3, -3]⟩ rfl
  obtain ⟨Ad7, cd7, rfl, -, -⟩ : ∃ A c, vd = .slice A 3 c ∧ 3 ≤ c ∧ c ≤ 9223372036854775807 := hd7.form
  clear e hg
  obtain ⟨vp, vg, e, -, -, hg⟩ := nM
  obtain ⟨rfl, rfl⟩ : .slice Amp 2 cmp = vp ∧ .slice Amg 3 cmg = vg := by injection e with e; simp at e; exact ⟨e.1, e.2⟩
  obtain ⟨bm, om, vm0, eAm, hm0, -⟩ := GatesAt.at_ (n := 3) hg 0 ⟨6, 2, [2]⟩ rfl
  obtain ⟨bm2, om2, vm, eAm2, -, -, hm6, hm7, -⟩ := GatesAt.at_ (n := 3) hg 2 ⟨5, 4, [4, -6, 6]⟩ rfl
  subst eAm
  cases eAm2
  obtain ⟨Am7, cm7, rfl, -, -⟩ : ∃ A c, vm = .slice A 3 c ∧ 3 ≤ c ∧ c ≤ 9223372036854775807 := hm7.form
  clear e hg
  obtain ⟨vp, vg, e, -, -, hg⟩ := nO
  obtain ⟨rfl, rfl⟩ : .slice Aop 1 cop = vp ∧ .slice Aog 1 cog = vg := by injection e with e; simp at e; exact ⟨e.1, e.2⟩
  obtain ⟨bo, oo, vo, rfl, ho0, -⟩ := GatesAt.at_ (n := 1) hg 0 ⟨2, 1, []⟩ rfl
  clear e hg
  simp only [Nat.zero_mul, Nat.add_zero, Nat.reduceMul] at hc6 hd6 hm0 hm6 ho0
  have g0 := cell_row rC (j := 0) (v := .slice (some ⟨bc, oc, none⟩) 1 ccp) rfl
  have g1 := cell_row rC (j := 1) (v := .slice Acg 0 ccg) rfl
  have g2 := cell_row rC (j := 2) (v := .int .i64 (-3)) rfl
  have d1 := cell_row rD (j := 1) (v := .slice (some ⟨bd, od, none⟩) 1 cdg) rfl
  obtain ⟨wp, hwp, -, -, zp, hBp, qp⟩ := new_block wn #[.int .i64 1, .int .i64 3, .int .i64 (-3)] 3
  rw [zn] at qp zp
  have I1 := Ints_any _ _ [1, 3, -3] [1, 3, -3] wp (hd7.keep (keeps_below hBp)) (ints_row (n := 3) qp rfl (i64s rfl) (by omega))
  have eI1 : decide (([1, 3, -3] : List Int) = [1, 3, -3]) = true := by decide
  rw [eI1] at I1
  clear rows nets hFC hFD hFM hFO
  go_wp2_with fail
  refine I1.mono ?_
  rintro e wq ⟨rfl, hBq⟩
  have hBnq := below_then hBp (by omega) hBq
  have rDq := row_below rD hBnq
  have rMq := row_below rM hBnq
  have dq2 := cell_row rDq (j := 2) (v := .int .i64 5) rfl
  have mq1 := cell_row rMq (j := 1) (v := .slice (some ⟨bm, om, none⟩) 3 cmg) rfl
  have mv := keeps_below hBnq _ _ hm0
  have mi := keeps_below hBnq _ _ hm6
  obtain ⟨wr, hwr, -, -, zr, hBr, qr⟩ := new_block wq #[.int .i64 4, .int .i64 (-6), .int .i64 6] 3
  have hBnr := below_then hBnq hBnq.size hBr
  have I2 := Ints_any _ _ [4, -6, 6] [4, -6, 6] wr (hm7.keep (keeps_below hBnr)) (ints_row (n := 3) qr rfl (i64s rfl) (by omega))
  have eI2 : decide (([4, -6, 6] : List Int) = [4, -6, 6]) = true := by decide
  rw [eI2] at I2
  clear I1 g0 g1 g2 d1 hc6 hc7 hd6 hd7 hm7 hwp qp eI1 eI2
  go_wp2_with fail
  refine I2.mono ?_
  rintro e ws ⟨rfl, hBs⟩
  have hBns := below_then hBnr hBnr.size hBs
  have rOs := row_below qn hBns
  have o1 := cell_row rOs (j := 1) (v := .slice (some ⟨bo, oo, none⟩) 1 cog) rfl
  have o2 := cell_row rOs (j := 2) (v := .int .i64 (-2)) rfl
  have ov := keeps_below hBns _ _ ho0
  clear I2 dq2 mq1 mv mi
  go_wp2_with fail
  go_ret
  exact ⟨rfl, below_then hB0n hB0n.size hBns⟩
end Go.Proofs.Ytnlobmepajakcaa
