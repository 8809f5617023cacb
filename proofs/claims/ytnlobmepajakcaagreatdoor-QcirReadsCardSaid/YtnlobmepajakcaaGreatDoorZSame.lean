/- What the document's Same does; no condition. -/
import Derived.Test.YtnlobmepajakcaaGreatDoorZRef
set_option linter.unusedVariables false
set_option linter.unusedSimpArgs false
namespace Go.Proofs.YtnlobmepajakcaaGreatDoor
open Go.RowKit Go.Shelf

theorem drop_neX {α : Type} [DecidableEq α] {xs ys : List α} {j : Nat} {x y : α} (hx : xs[j]? = some x) (hy : ys[j]? = some y) (h : x ≠ y) : decide (xs = ys) = false := by
  rw [decide_eq_false_iff_not]; intro e; rw [e] at hx; rw [hx] at hy; injection hy with hy; exact h hy
theorem block_eq {x y : PBlock} : x = y ↔ x.ex = y.ex ∧ x.vars = y.vars := by
  cases x; cases y; simp
theorem gate_eq {x y : PGate} : x = y ↔ x.var = y.var ∧ x.kind = y.kind ∧ x.ins = y.ins := by
  cases x; cases y; simp
theorem net_eq {x y : PNet} : x = y ↔ x.out = y.out ∧ x.pre = y.pre ∧ x.gates = y.gates := by
  cases x; cases y; simp; exact ⟨fun h => ⟨h.2.2, h.1, h.2.1⟩, fun h => ⟨h.2.1, h.2.2, h.1⟩⟩
set_option maxHeartbeats 1000000 in
theorem SamePrefix_any (v1 v2 : Value) (xs ys : List PBlock) (w : World) (h1 : BlocksAt w v1 xs) (h2 : BlocksAt w v2 ys) :
    Calls Tryz.prog 46 #[v1, v2] w fun e w' => e = .returned (.bool (decide (xs = ys))) ∧ Below w.heap.size w w' := by
  obtain ⟨A, c, rfl, hlc, hcm⟩ := h1.form
  obtain ⟨A2, c2, rfl, hlc2, hcm2⟩ := h2.form
  by_cases hl : xs.length = ys.length
  · have hz : ((xs.length : Int) != (ys.length : Int)) = false := by simp [hl]
    have HL := hid hl
    clear hl
    go_enter Tryz.func46, Tryz.ntmps46
    go_wp2_with fail
    go_loopg [5] xs.length (fun gg s5 wr => ∃ j : Nat, j ≤ xs.length ∧ xs.length - j ≤ gg ∧ s5 = .int .i64 j ∧ Below w.heap.size w wr ∧ Aside (xs.take j = ys.take j))
    case atStart => exact ⟨0, Nat.zero_le _, by omega, rfl, Below.refl _ _, rfl⟩
    case round =>
      obtain ⟨j, hj, hg, rfl, hB, hT⟩ := hrel
      by_cases hlt : j < xs.length
      · obtain ⟨x, hx, -, -⟩ := nth hlt
        obtain ⟨y, hy, -, -⟩ := nth (show j < ys.length by rw [← HL.out]; exact hlt)
        obtain ⟨b, off, vx, rfl, hcx0, hcx1, hix⟩ := (h1.keep (keeps_below hB)).at_ j x hx
        obtain ⟨b2, off2, vy, rfl, hcy0, hcy1, hiy⟩ := (h2.keep (keeps_below hB)).at_ j y hy
        have hltz : (j : Int) < (xs.length : Int) := by omega
        have hltz2 : (j : Int) < (ys.length : Int) := by rw [← HL.out]; omega
        have hj0 : 0 ≤ (j : Int) := by omega
        have CI := fun p => Ints_any vx vy x.vars y.vars (since wr p) (hix.keep (keeps_below (since_below wr p))) (hiy.keep (keeps_below (since_below wr p)))
        obtain ⟨e1, he1⟩ : ∃ e, x.ex = e := ⟨_, rfl⟩
        obtain ⟨e2, he2⟩ : ∃ e, y.ex = e := ⟨_, rfl⟩
        obtain ⟨r, hr⟩ : ∃ r, decide (x.vars = y.vars) = r := ⟨_, rfl⟩
        rw [hr] at CI
        rw [he1] at hcx0
        rw [he2] at hcy0
        have g1 := fun p => cell_since hcx0 p
        have g2 := fun p => cell_since hcy0 p
        have g3 := fun p => cell_since hcx1 p
        have g4 := fun p => cell_since hcy1 p
        have HXY := hid (And.intro hx hy)
        have HT := hid hT
        have HE := hid (And.intro he1 (And.intro he2 hr))
        clear hx hy hT he1 he2 hr hix hiy
        have HD : Hid (∀ q, decide (x = y) = q → (e1 = e2 ∧ r = true) = (q = true)) := fun q hq => by
          rw [← HE.out.1, ← HE.out.2.1, ← HE.out.2.2]; subst hq; simp only [decide_eq_true_eq]; exact propext block_eq.symm
        cases e1 <;> cases e2 <;> cases r
        all_goals
          go_wp2_with fail
          refine region_quiet (by kernel_rfl) (by kernel_rfl) ?_
          repeat (first | go_big_quiet_step ((go_at_call 33; exact calls_since (CI _))) | quiet_step ((go_at_call 33; exact calls_since (CI _))))
          refine wpQuiet_nil ?_
          rintro W2 ⟨pw, hW2⟩
          have hB2 : Below wr.heap.size wr W2 := by rw [hW2]; exact since_below wr pw
          clear hW2 g1 g2 g3 g4 CI
          have hB3 := below_then hB hB.size hB2
        all_goals
          first
          | (go_wp2_with fail
             go_roundg (xs.length - (j + 1))
             case measure => omega
             case rel =>
               have he : x = y := of_decide_eq_true ((HD.out _ rfl).mp (by simp))
               refine ⟨j + 1, by omega, by omega, by go_num, hB3, ?_⟩
               show xs.take (j + 1) = ys.take (j + 1)
               rw [take_snoc HXY.out.1, take_snoc HXY.out.2, HT.out, he])
          | (go_wp2_with fail
             go_ret
             refine ⟨ret_bool (drop_neX HXY.out.1 HXY.out.2 ?_).symm, hB3⟩
             intro he
             have := (HD.out _ rfl).mpr (decide_eq_true he)
             simp at this)
      · have hltz : ¬ (j : Int) < (xs.length : Int) := by omega
        have he : xs = ys := by
          have := hT
          rw [List.take_of_length_le (by omega : xs.length ≤ j), List.take_of_length_le (by have := HL.out; omega : ys.length ≤ j)] at this
          exact this
        have HE := hid he
        clear he hT
        go_wp2_with fail
        go_ret
        exact ⟨ret_bool (decide_eq_true HE.out).symm, hB⟩
  · have hz : ((xs.length : Int) != (ys.length : Int)) = true := by simp; omega
    have HL := hid hl
    clear hl
    go_enter Tryz.func46, Tryz.ntmps46
    go_wp2_with fail
    go_ret
    exact ⟨ret_bool (by symm; rw [decide_eq_false_iff_not]; intro e; exact HL.out (by rw [e])), Below.refl _ _⟩
set_option maxHeartbeats 2000000 in
theorem SameGates_any (v1 v2 : Value) (xs ys : List PGate) (w : World) (h1 : GatesAt w v1 xs) (h2 : GatesAt w v2 ys) :
    Calls Tryz.prog 47 #[v1, v2] w fun e w' => e = .returned (.bool (decide (xs = ys))) ∧ Below w.heap.size w w' := by
  obtain ⟨A, c, rfl, hlc, hcm⟩ := h1.form
  obtain ⟨A2, c2, rfl, hlc2, hcm2⟩ := h2.form
  by_cases hl : xs.length = ys.length
  · have hz : ((xs.length : Int) != (ys.length : Int)) = false := by simp [hl]
    have HL := hid hl
    clear hl
    go_enter Tryz.func47, Tryz.ntmps47
    go_wp2_with fail
    go_loopg [5] xs.length (fun gg s5 wr => ∃ j : Nat, j ≤ xs.length ∧ xs.length - j ≤ gg ∧ s5 = .int .i64 j ∧ Below w.heap.size w wr ∧ Aside (xs.take j = ys.take j))
    case atStart => exact ⟨0, Nat.zero_le _, by omega, rfl, Below.refl _ _, rfl⟩
    case round =>
      obtain ⟨j, hj, hg, rfl, hB, hT⟩ := hrel
      by_cases hlt : j < xs.length
      · obtain ⟨x, hx, -, -⟩ := nth hlt
        obtain ⟨y, hy, -, -⟩ := nth (show j < ys.length by rw [← HL.out]; exact hlt)
        obtain ⟨b, off, vx, rfl, hcx0, hcx1, hcx2, hix, -⟩ := (h1.keep (keeps_below hB)).at_ j x hx
        obtain ⟨b2, off2, vy, rfl, hcy0, hcy1, hcy2, hiy, -⟩ := (h2.keep (keeps_below hB)).at_ j y hy
        have hltz : (j : Int) < (xs.length : Int) := by omega
        have hltz2 : (j : Int) < (ys.length : Int) := by rw [← HL.out]; omega
        have hj0 : 0 ≤ (j : Int) := by omega
        have CI := fun p => Ints_any vx vy x.ins y.ins (since wr p) (hix.keep (keeps_below (since_below wr p))) (hiy.keep (keeps_below (since_below wr p)))
        obtain ⟨r1, hr1⟩ : ∃ r, (x.var != y.var) = r := ⟨_, rfl⟩
        obtain ⟨r2, hr2⟩ : ∃ r, (x.kind != y.kind) = r := ⟨_, rfl⟩
        obtain ⟨r, hr⟩ : ∃ r, decide (x.ins = y.ins) = r := ⟨_, rfl⟩
        rw [hr] at CI
        have g1 := fun p => cell_since hcx0 p
        have g2 := fun p => cell_since hcy0 p
        have g3 := fun p => cell_since hcx1 p
        have g4 := fun p => cell_since hcy1 p
        have g5 := fun p => cell_since hcx2 p
        have g6 := fun p => cell_since hcy2 p
        have HXY := hid (And.intro hx hy)
        have HT := hid hT
        have HD : Hid (∀ q, decide (x = y) = q → (r1 = false ∧ r2 = false ∧ r = true) = (q = true)) := fun q hq => by
          rw [← hr1, ← hr2, ← hr]; subst hq; simp only [decide_eq_true_eq, bne_eq_false_iff_eq]; exact propext gate_eq.symm
        clear hx hy hT hr hix hiy
        cases r1 <;> cases r2 <;> cases r
        all_goals
          go_wp2_with fail
          refine region_quiet (by kernel_rfl) (by kernel_rfl) ?_
          repeat (first | go_big_quiet_step ((go_at_call 33; exact calls_since (CI _))) | quiet_step ((go_at_call 33; exact calls_since (CI _))))
          refine wpQuiet_nil ?_
          rintro W2 ⟨pw, hW2⟩
          have hB2 : Below wr.heap.size wr W2 := by rw [hW2]; exact since_below wr pw
          clear hW2 g1 g2 g3 g4 g5 g6 CI hr1 hr2
          have hB3 := below_then hB hB.size hB2
        all_goals
          first
          | (go_wp2_with fail
             go_roundg (xs.length - (j + 1))
             case measure => omega
             case rel =>
               have he : x = y := of_decide_eq_true ((HD.out _ rfl).mp (by simp))
               refine ⟨j + 1, by omega, by omega, by go_num, hB3, ?_⟩
               show xs.take (j + 1) = ys.take (j + 1)
               rw [take_snoc HXY.out.1, take_snoc HXY.out.2, HT.out, he])
          | (go_wp2_with fail
             go_ret
             refine ⟨ret_bool (drop_neX HXY.out.1 HXY.out.2 ?_).symm, hB3⟩
             intro he
             have := (HD.out _ rfl).mpr (decide_eq_true he)
             simp at this)
      · have hltz : ¬ (j : Int) < (xs.length : Int) := by omega
        have he : xs = ys := by
          have := hT
          rw [List.take_of_length_le (by omega : xs.length ≤ j), List.take_of_length_le (by have := HL.out; omega : ys.length ≤ j)] at this
          exact this
        have HE := hid he
        clear he hT
        go_wp2_with fail
        go_ret
        exact ⟨ret_bool (decide_eq_true HE.out).symm, hB⟩
  · have hz : ((xs.length : Int) != (ys.length : Int)) = true := by simp; omega
    have HL := hid hl
    clear hl
    go_enter Tryz.func47, Tryz.ntmps47
    go_wp2_with fail
    go_ret
    exact ⟨ret_bool (by symm; rw [decide_eq_false_iff_not]; intro e; exact HL.out (by rw [e])), Below.refl _ _⟩
theorem SameR_any (v1 v2 : Value) (M N : PNet) (w : World) (h1 : NetAt w v1 M) (h2 : NetAt w v2 N) :
    Calls Tryz.prog 19 #[v1, v2] w fun e w' => e = .returned (.bool (decide (M = N))) ∧ Below w.heap.size w w' := by
  obtain ⟨vp, vg, rfl, ho, hp, hgt⟩ := h1
  obtain ⟨vp2, vg2, rfl, ho2, hp2, hgt2⟩ := h2
  obtain ⟨w1, hw1, -, -, z1, hB1, q1⟩ := new_block w #[vp, vg, .int .i64 M.out] 40
  obtain ⟨w2, hw2, -, -, z2, hB12, q2⟩ := new_block w1 #[vp2, vg2, .int .i64 N.out] 40
  have hB02 := below_then hB1 hB1.size hB12
  have rows : ∀ W, Below w2.heap.size w2 W → (W.cell? ⟨w.heap.size, 0, none⟩ = some vp ∧ W.cell? ⟨w.heap.size, 1, none⟩ = some vg ∧ W.cell? ⟨w.heap.size, 2, none⟩ = some (.int .i64 M.out)) ∧
      (W.cell? ⟨w1.heap.size, 0, none⟩ = some vp2 ∧ W.cell? ⟨w1.heap.size, 1, none⟩ = some vg2 ∧ W.cell? ⟨w1.heap.size, 2, none⟩ = some (.int .i64 N.out)) := fun W hW =>
    ⟨⟨cell_row (row_below (row_below q1 hB12) hW) rfl, cell_row (row_below (row_below q1 hB12) hW) rfl, cell_row (row_below (row_below q1 hB12) hW) rfl⟩,
      ⟨cell_row (row_below q2 hW) rfl, cell_row (row_below q2 hW) rfl, cell_row (row_below q2 hW) rfl⟩⟩
  rw [z1] at rows
  obtain ⟨⟨a0, a1, a2⟩, ⟨b0, b1, b2⟩⟩ := rows w2 (Below.refl _ _)
  have CP := SamePrefix_any vp vp2 M.pre N.pre w2 (hp.keep (keeps_below hB02)) (hp2.keep (keeps_below hB02))
  have CG := fun W (hW : Below w2.heap.size w2 W) => SameGates_any vg vg2 M.gates N.gates W (hgt.keep (keeps_below (below_then hB02 hB02.size hW))) (hgt2.keep (keeps_below (below_then hB02 hB02.size hW)))
  have HD : Hid (∀ q, decide (M = N) = q → (M.out = N.out ∧ decide (M.pre = N.pre) = true ∧ decide (M.gates = N.gates) = true) = (q = true)) := fun q hq => by
    subst hq; simp only [decide_eq_true_eq]; exact propext net_eq.symm
  generalize decide (M.pre = N.pre) = r1 at CP HD
  generalize decide (M.gates = N.gates) = r2 at CG HD
  generalize decide (M = N) = q at HD ⊢
  by_cases hout : M.out = N.out
  · have hz : (M.out == N.out) = true := by simp [hout]
    have HO := hid hout
    clear hout
    cases r1 with
    | false =>
      have hq : q = false := by
        cases q with
        | false => rfl
        | true => have := (HD.out _ rfl).mpr rfl; simp at this
      subst hq
      clear HD
      go_enter Tryz.func19, Tryz.ntmps19
      go_wp2_with (go_at_call 46; refine CP.mono ?_; rintro e w3 ⟨rfl, hB3⟩)
      go_ret
      exact ⟨rfl, below_then hB02 hB02.size hB3⟩
    | true =>
      have hq : q = r2 := by
        have := HD.out _ rfl
        have h1 := HO.out
        cases q <;> cases r2 <;> simp_all
      subst hq
      clear HD
      go_enter Tryz.func19, Tryz.ntmps19
      go_wp2_with (first | (go_at_call 46; refine CP.mono ?_; rintro e w3 ⟨rfl, hB3⟩; obtain ⟨⟨c0, c1, c2⟩, ⟨d0, d1, d2⟩⟩ := rows w3 hB3) | (go_at_call 47; refine (CG _ hB3).mono ?_; rintro e w4 ⟨rfl, hB4⟩))
      go_ret
      exact ⟨rfl, below_then hB02 hB02.size (below_then hB3 hB3.size hB4)⟩
  · have hz : (M.out == N.out) = false := by simp [hout]
    have hq : q = false := by
      cases q with
      | false => rfl
      | true => exact absurd ((HD.out _ rfl).mpr rfl).1 hout
    subst hq
    clear HD hout
    go_enter Tryz.func19, Tryz.ntmps19
    go_wp2_with fail
    go_ret
    exact ⟨rfl, hB02⟩
end Go.Proofs.YtnlobmepajakcaaGreatDoor
