/- What circ.Same does; no condition but that both nets read as data. -/
import Derived.Test.YtnlobmepajakcaaSame
set_option linter.unusedVariables false
set_option linter.unusedSimpArgs false
namespace Go.Proofs.Ytnlobmepajakcaa
open Go.RowKit Go.Shelf

theorem equal_ints (v1 v2 : Value) (xs ys : List Int) (w : World) (h1 : IntsAt w v1 xs) (h2 : IntsAt w v2 ys) :
    Calls Try.prog 80 #[v1, v2] w fun e w' => e = .returned (.bool (decide (xs = ys))) ∧ Below w.heap.size w w' := by
  obtain ⟨A, c, rfl, hlc, hcm⟩ := h1.form
  obtain ⟨A2, c2, rfl, hlc2, hcm2⟩ := h2.form
  by_cases hl : xs.length = ys.length
  · have hz : ((xs.length : Int) != (ys.length : Int)) = false := by simp [hl]
    have HL := hid hl
    clear hl
    go_enter Try.func80, Try.ntmps80
    go_wp2_with fail
    go_loopg [5, 13] xs.length (fun gg _ s13 wr => ∃ j : Nat, j ≤ xs.length ∧ xs.length - j ≤ gg ∧ s13 = .int .i64 j ∧ Below w.heap.size w wr ∧ Aside (xs.take j = ys.take j))
    case atStart => exact ⟨0, Nat.zero_le _, by omega, rfl, Below.refl _ _, rfl⟩
    case round =>
      obtain ⟨j, hj, hg, rfl, hB, hT⟩ := hrel
      by_cases hlt : j < xs.length
      · obtain ⟨x, hx, -, -⟩ := nth hlt
        obtain ⟨y, hy, -, -⟩ := nth (show j < ys.length by rw [← HL.out]; exact hlt)
        obtain ⟨b, off, rfl, hcx, -⟩ := (h1.keep (keeps_below hB)).at_ j x hx
        obtain ⟨b2, off2, rfl, hcy, -⟩ := (h2.keep (keeps_below hB)).at_ j y hy
        have hltz : (j : Int) < (xs.length : Int) := by omega
        have hltz2 : (j : Int) < (ys.length : Int) := by rw [← HL.out]; omega
        have hj0 : 0 ≤ (j : Int) := by omega
        have g1 := fun p => cell_since hcx p
        have g2 := fun p => cell_since hcy p
        have HXY := hid (And.intro hx hy)
        have HT := hid hT
        clear hx hy hT
        go_wp2_with fail
        refine region_quiet (by kernel_rfl) (by kernel_rfl) ?_
        repeat (first | go_big_quiet_step (fail) | quiet_step (fail))
        refine wpQuiet_nil ?_
        rintro W2 ⟨pw, hW2⟩
        have hB2 : Below wr.heap.size wr W2 := by rw [hW2]; exact since_below wr pw
        clear hW2 g1 g2
        have hB3 := below_then hB hB.size hB2
        by_cases hne : x = y
        · have hz2 : (x != y) = false := by simp [hne]
          have HN := hid hne
          clear hne
          go_wp2_with fail
          go_roundg (xs.length - (j + 1))
          case measure => omega
          case rel =>
            refine ⟨j + 1, by omega, by omega, by go_num, hB3, ?_⟩
            show xs.take (j + 1) = ys.take (j + 1)
            rw [take_snoc HXY.out.1, take_snoc HXY.out.2, HT.out, HN.out]
        · have hz2 : (x != y) = true := by simp [hne]
          have HN := hid hne
          clear hne
          go_wp2_with fail
          go_ret
          exact ⟨ret_bool (drop_ne HXY.out.1 HXY.out.2 HN.out).symm, hB3⟩
      · have hltz : ¬ (j : Int) < (xs.length : Int) := by omega
        have he : xs = ys := by
          have := hT
          rw [List.take_of_length_le (by omega : xs.length ≤ j), List.take_of_length_le (by have := HL.out; omega : ys.length ≤ j)] at this
          exact this
        have HE := hid he
        clear he hT
        go_wp2_with fail
        go_ret
        exact ⟨ret_bool (decide_eq_true HE.out).symm, hB⟩
  · have hz : ((xs.length : Int) != (ys.length : Int)) = true := by simp; omega
    have HL := hid hl
    clear hl
    go_enter Try.func80, Try.ntmps80
    go_wp2_with fail
    go_ret
    exact ⟨ret_bool (by symm; rw [decide_eq_false_iff_not]; intro e; exact HL.out (by rw [e])), Below.refl _ _⟩
theorem eq79 (e1 e2 : Bool) (v1 v2 : Value) (xs ys : List Int) (w : World) (h1 : IntsAt w v1 xs) (h2 : IntsAt w v2 ys) :
    Calls Try.prog 79 #[.agg #[.bool e1, v1], .agg #[.bool e2, v2]] w fun e w' => e = .returned (.bool (e1 == e2 && decide (xs = ys))) ∧ Below w.heap.size w w' := by
  obtain ⟨A, c, rfl, hlc, hcm⟩ := h1.form
  obtain ⟨A2, c2, rfl, hlc2, hcm2⟩ := h2.form
  obtain ⟨w1, hw1, -, -, z1, hB1, q1⟩ := new_block w #[.bool e1, .slice A xs.length c] 80
  obtain ⟨w2, hw2, -, -, z2, hB12, q2⟩ := new_block w1 #[.bool e2, .slice A2 ys.length c2] 80
  have hB02 := below_then hB1 hB1.size hB12
  have k1 := row_below q1 hB12
  have a0 := cell_row k1 (j := 0) (v := .bool e1) rfl
  have a1 := cell_row k1 (j := 1) (v := .slice A xs.length c) rfl
  have b0 := cell_row q2 (j := 0) (v := .bool e2) rfl
  have b1 := cell_row q2 (j := 1) (v := .slice A2 ys.length c2) rfl
  rw [z1] at b0 b1
  have CI := equal_ints _ _ xs ys w2 (h1.keep (keeps_below hB02)) (h2.keep (keeps_below hB02))
  generalize decide (xs = ys) = r at CI ⊢
  clear q1 q2 k1 z2
  cases e1 <;> cases e2
  all_goals
    go_enter Try.func79, Try.ntmps79
    go_wp2_with (first | (go_at_call 80; refine CI.mono ?_; rintro e w3 ⟨rfl, hB3⟩) | fail)
    go_ret
    first | exact ⟨rfl, hB02⟩ | exact ⟨rfl, below_then hB02 hB02.size hB3⟩
set_option maxHeartbeats 1000000 in
theorem eq82 (x1 x2 k1 k2 : Int) (v1 v2 : Value) (xs ys : List Int) (w : World) (h1 : IntsAt w v1 xs) (h2 : IntsAt w v2 ys) :
    Calls Try.prog 82 #[.agg #[.int .i64 x1, .int .u8 k1, v1], .agg #[.int .i64 x2, .int .u8 k2, v2]] w fun e w' => e = .returned (.bool (x1 == x2 && (k1 == k2 && decide (xs = ys)))) ∧ Below w.heap.size w w' := by
  obtain ⟨A, c, rfl, hlc, hcm⟩ := h1.form
  obtain ⟨A2, c2, rfl, hlc2, hcm2⟩ := h2.form
  obtain ⟨w1, hw1, -, -, z1, hB1, q1⟩ := new_block w #[.int .i64 x1, .int .u8 k1, .slice A xs.length c] 70
  obtain ⟨w2, hw2, -, -, z2, hB12, q2⟩ := new_block w1 #[.int .i64 x2, .int .u8 k2, .slice A2 ys.length c2] 70
  have hB02 := below_then hB1 hB1.size hB12
  have q := row_below q1 hB12
  have a0 := cell_row q (j := 0) (v := .int .i64 x1) rfl
  have a1 := cell_row q (j := 1) (v := .int .u8 k1) rfl
  have a2 := cell_row q (j := 2) (v := .slice A xs.length c) rfl
  have b0 := cell_row q2 (j := 0) (v := .int .i64 x2) rfl
  have b1 := cell_row q2 (j := 1) (v := .int .u8 k2) rfl
  have b2 := cell_row q2 (j := 2) (v := .slice A2 ys.length c2) rfl
  rw [z1] at b0 b1 b2
  have CI := equal_ints _ _ xs ys w2 (h1.keep (keeps_below hB02)) (h2.keep (keeps_below hB02))
  generalize decide (xs = ys) = r at CI ⊢
  clear q1 q2 q z2
  have key : ∀ r1 r2, (x1 == x2) = r1 → (k1 == k2) = r2 → Calls Try.prog 82 #[.agg #[.int .i64 x1, .int .u8 k1, .slice A xs.length c], .agg #[.int .i64 x2, .int .u8 k2, .slice A2 ys.length c2]] w fun e w' => e = .returned (.bool (r1 && (r2 && r))) ∧ Below w.heap.size w w' := by
    intro r1 r2 hr1 hr2
    cases r1 <;> cases r2
    all_goals
      go_enter Try.func82, Try.ntmps82
      go_wp2_with (first | (go_at_call 80; refine CI.mono ?_; rintro e w3 ⟨rfl, hB3⟩) | fail)
      go_ret
      first | exact ⟨rfl, hB02⟩ | exact ⟨rfl, below_then hB02 hB02.size hB3⟩
  exact key _ _ rfl rfl
set_option maxHeartbeats 1000000 in
theorem equalFunc_blocks (g : Nat) (fs cb : Array Value) (eg : ∀ args w, (callFunc g args).run Try.prog w = .ok (.enter g args) w) (v1 v2 : Value) (xs ys : List PBlock) (w : World) (h1 : BlocksAt w v1 xs) (h2 : BlocksAt w v2 ys)
    (hcall : ∀ (e1 e2 : Bool) (u1 u2 : Value) (l1 l2 : List Int) (W : World), IntsAt W u1 l1 → IntsAt W u2 l2 → Calls Try.prog g (fs ++ (#[.agg #[.bool e1, u1], .agg #[.bool e2, u2]] ++ cb)) W fun e w' => e = .returned (.bool (e1 == e2 && decide (l1 = l2))) ∧ Below W.heap.size W w') :
    Calls Try.prog 78 #[v1, v2, .func (.func g) fs cb] w fun e w' => e = .returned (.bool (decide (xs = ys))) ∧ Below w.heap.size w w' := by
  obtain ⟨A, c, rfl, hlc, hcm⟩ := h1.form
  obtain ⟨A2, c2, rfl, hlc2, hcm2⟩ := h2.form
  by_cases hl : xs.length = ys.length
  · have hz : ((xs.length : Int) != (ys.length : Int)) = false := by simp [hl]
    have HL := hid hl
    clear hl
    go_enter Try.func78, Try.ntmps78
    go_wp2_with fail
    go_loopg [7, 8, 9, 17] xs.length (fun gg _ _ _ s17 wr => ∃ j : Nat, j ≤ xs.length ∧ xs.length - j ≤ gg ∧ s17 = .int .i64 j ∧ Below w.heap.size w wr ∧ Aside (xs.take j = ys.take j))
    case atStart => exact ⟨0, Nat.zero_le _, by omega, rfl, Below.refl _ _, rfl⟩
    case round =>
      obtain ⟨j, hj, hg, rfl, hB, hT⟩ := hrel
      by_cases hlt : j < xs.length
      · obtain ⟨x, hx, -, -⟩ := nth hlt
        obtain ⟨y, hy, -, -⟩ := nth (show j < ys.length by rw [← HL.out]; exact hlt)
        obtain ⟨b, off, vx, rfl, hcx0, hcx1, hix⟩ := (h1.keep (keeps_below hB)).at_ j x hx
        obtain ⟨b2, off2, vy, rfl, hcy0, hcy1, hiy⟩ := (h2.keep (keeps_below hB)).at_ j y hy
        obtain ⟨Ax, cx, rfl, -, -⟩ := hix.form
        obtain ⟨Ay, cy, rfl, -, -⟩ := hiy.form
        have hltz : (j : Int) < (xs.length : Int) := by omega
        have hltz2 : (j : Int) < (ys.length : Int) := by rw [← HL.out]; omega
        have hj0 : 0 ≤ (j : Int) := by omega
        obtain ⟨wN, hwN, -, -, zN, hBN, qN⟩ := new_block wr #[.bool x.ex, .slice Ax x.vars.length cx] 80
        have d0 := keeps_below hBN _ _ hcy0
        have d1 := keeps_below hBN _ _ hcy1
        obtain ⟨wM, hwM, -, -, zM, hBM, qM⟩ := new_block wN #[.bool y.ex, .slice Ay y.vars.length cy] 80
        have hBrM := below_then hBN hBN.size hBM
        have CI := hcall x.ex y.ex _ _ x.vars y.vars wM (hix.keep (keeps_below hBrM)) (hiy.keep (keeps_below hBrM))
        have qN' := row_below qN hBM
        have f0 := cell_row qN' (j := 0) (v := .bool x.ex) rfl
        have f1 := cell_row qN' (j := 1) (v := .slice Ax x.vars.length cx) rfl
        have m0 := cell_row qM (j := 0) (v := .bool y.ex) rfl
        have m1 := cell_row qM (j := 1) (v := .slice Ay y.vars.length cy) rfl
        rw [zN] at m0 m1
        have hBwM := below_then hB hB.size hBrM
        have hD : decide (x = y) = (x.ex == y.ex && decide (x.vars = y.vars)) := by
          rw [Bool.eq_iff_iff, decide_eq_true_eq, block_eq]; simp
        have HXY := hid (And.intro hx hy)
        have HT := hid hT
        rw [← hD] at CI
        clear hx hy hT hix hiy hD hcall hcy0 hcy1 qN qM qN' zM
        by_cases he : x = y
        · rw [decide_eq_true he] at CI
          have HE := hid he
          clear he
          go_wp2_with (first | (go_at_fn g; refine CI.mono ?_; rintro e w5 ⟨rfl, hB5⟩) | fail)
          go_roundg (xs.length - (j + 1))
          case measure => omega
          case rel =>
            refine ⟨j + 1, by omega, by omega, by go_num, below_then hBwM hBwM.size hB5, ?_⟩
            show xs.take (j + 1) = ys.take (j + 1)
            rw [take_snoc HXY.out.1, take_snoc HXY.out.2, HT.out, HE.out]
        · rw [decide_eq_false he] at CI
          have HE := hid he
          clear he
          go_wp2_with (first | (go_at_fn g; refine CI.mono ?_; rintro e w5 ⟨rfl, hB5⟩) | fail)
          go_ret
          exact ⟨ret_bool (drop_neX HXY.out.1 HXY.out.2 HE.out).symm, below_then hBwM hBwM.size hB5⟩
      · have hltz : ¬ (j : Int) < (xs.length : Int) := by omega
        have he : xs = ys := by
          have := hT
          rw [List.take_of_length_le (by omega : xs.length ≤ j), List.take_of_length_le (by have := HL.out; omega : ys.length ≤ j)] at this
          exact this
        have HE := hid he
        clear he hT hcall
        go_wp2_with fail
        go_ret
        exact ⟨ret_bool (decide_eq_true HE.out).symm, hB⟩
  · have hz : ((xs.length : Int) != (ys.length : Int)) = true := by simp; omega
    have HL := hid hl
    clear hl hcall
    go_enter Try.func78, Try.ntmps78
    go_wp2_with fail
    go_ret
    exact ⟨ret_bool (by symm; rw [decide_eq_false_iff_not]; intro e; exact HL.out (by rw [e])), Below.refl _ _⟩
set_option maxHeartbeats 1000000 in
theorem equalFunc_gates (g : Nat) (fs cb : Array Value) (eg : ∀ args w, (callFunc g args).run Try.prog w = .ok (.enter g args) w) (v1 v2 : Value) (xs ys : List PGate) (w : World) (h1 : GatesAt w v1 xs) (h2 : GatesAt w v2 ys)
    (hcall : ∀ (x1 x2 k1 k2 : Int) (u1 u2 : Value) (l1 l2 : List Int) (W : World), IntsAt W u1 l1 → IntsAt W u2 l2 → Calls Try.prog g (fs ++ (#[.agg #[.int .i64 x1, .int .u8 k1, u1], .agg #[.int .i64 x2, .int .u8 k2, u2]] ++ cb)) W fun e w' => e = .returned (.bool (x1 == x2 && (k1 == k2 && decide (l1 = l2)))) ∧ Below W.heap.size W w') :
    Calls Try.prog 81 #[v1, v2, .func (.func g) fs cb] w fun e w' => e = .returned (.bool (decide (xs = ys))) ∧ Below w.heap.size w w' := by
  obtain ⟨A, c, rfl, hlc, hcm⟩ := h1.form
  obtain ⟨A2, c2, rfl, hlc2, hcm2⟩ := h2.form
  by_cases hl : xs.length = ys.length
  · have hz : ((xs.length : Int) != (ys.length : Int)) = false := by simp [hl]
    have HL := hid hl
    clear hl
    go_enter Try.func81, Try.ntmps81
    go_wp2_with fail
    go_loopg [7, 8, 9, 17] xs.length (fun gg _ _ _ s17 wr => ∃ j : Nat, j ≤ xs.length ∧ xs.length - j ≤ gg ∧ s17 = .int .i64 j ∧ Below w.heap.size w wr ∧ Aside (xs.take j = ys.take j))
    case atStart => exact ⟨0, Nat.zero_le _, by omega, rfl, Below.refl _ _, rfl⟩
    case round =>
      obtain ⟨j, hj, hg, rfl, hB, hT⟩ := hrel
      by_cases hlt : j < xs.length
      · obtain ⟨x, hx, -, -⟩ := nth hlt
        obtain ⟨y, hy, -, -⟩ := nth (show j < ys.length by rw [← HL.out]; exact hlt)
        obtain ⟨b, off, vx, rfl, hcx0, hcx1, hcx2, hix, -⟩ := (h1.keep (keeps_below hB)).at_ j x hx
        obtain ⟨b2, off2, vy, rfl, hcy0, hcy1, hcy2, hiy, -⟩ := (h2.keep (keeps_below hB)).at_ j y hy
        obtain ⟨Ax, cx, rfl, -, -⟩ := hix.form
        obtain ⟨Ay, cy, rfl, -, -⟩ := hiy.form
        have hltz : (j : Int) < (xs.length : Int) := by omega
        have hltz2 : (j : Int) < (ys.length : Int) := by rw [← HL.out]; omega
        have hj0 : 0 ≤ (j : Int) := by omega
        obtain ⟨wN, hwN, -, -, zN, hBN, qN⟩ := new_block wr #[.int .i64 x.var, .int .u8 x.kind, .slice Ax x.ins.length cx] 70
        have d0 := keeps_below hBN _ _ hcy0
        have d1 := keeps_below hBN _ _ hcy1
        have d2 := keeps_below hBN _ _ hcy2
        obtain ⟨wM, hwM, -, -, zM, hBM, qM⟩ := new_block wN #[.int .i64 y.var, .int .u8 y.kind, .slice Ay y.ins.length cy] 70
        have hBrM := below_then hBN hBN.size hBM
        have CI := hcall x.var y.var x.kind y.kind _ _ x.ins y.ins wM (hix.keep (keeps_below hBrM)) (hiy.keep (keeps_below hBrM))
        have qN' := row_below qN hBM
        have f0 := cell_row qN' (j := 0) (v := .int .i64 x.var) rfl
        have f1 := cell_row qN' (j := 1) (v := .int .u8 x.kind) rfl
        have f2 := cell_row qN' (j := 2) (v := .slice Ax x.ins.length cx) rfl
        have m0 := cell_row qM (j := 0) (v := .int .i64 y.var) rfl
        have m1 := cell_row qM (j := 1) (v := .int .u8 y.kind) rfl
        have m2 := cell_row qM (j := 2) (v := .slice Ay y.ins.length cy) rfl
        rw [zN] at m0 m1 m2
        have hBwM := below_then hB hB.size hBrM
        have hD : decide (x = y) = (x.var == y.var && (x.kind == y.kind && decide (x.ins = y.ins))) := by
          rw [Bool.eq_iff_iff, decide_eq_true_eq, gate_eq]; simp
        have HXY := hid (And.intro hx hy)
        have HT := hid hT
        rw [← hD] at CI
        clear hx hy hT hix hiy hD hcall hcy0 hcy1 hcy2 qN qM qN' zM
        by_cases he : x = y
        · rw [decide_eq_true he] at CI
          have HE := hid he
          clear he
          go_wp2_with (first | (go_at_fn g; refine CI.mono ?_; rintro e w5 ⟨rfl, hB5⟩) | fail)
          go_roundg (xs.length - (j + 1))
          case measure => omega
          case rel =>
            refine ⟨j + 1, by omega, by omega, by go_num, below_then hBwM hBwM.size hB5, ?_⟩
            show xs.take (j + 1) = ys.take (j + 1)
            rw [take_snoc HXY.out.1, take_snoc HXY.out.2, HT.out, HE.out]
        · rw [decide_eq_false he] at CI
          have HE := hid he
          clear he
          go_wp2_with (first | (go_at_fn g; refine CI.mono ?_; rintro e w5 ⟨rfl, hB5⟩) | fail)
          go_ret
          exact ⟨ret_bool (drop_neX HXY.out.1 HXY.out.2 HE.out).symm, below_then hBwM hBwM.size hB5⟩
      · have hltz : ¬ (j : Int) < (xs.length : Int) := by omega
        have he : xs = ys := by
          have := hT
          rw [List.take_of_length_le (by omega : xs.length ≤ j), List.take_of_length_le (by have := HL.out; omega : ys.length ≤ j)] at this
          exact this
        have HE := hid he
        clear he hT hcall
        go_wp2_with fail
        go_ret
        exact ⟨ret_bool (decide_eq_true HE.out).symm, hB⟩
  · have hz : ((xs.length : Int) != (ys.length : Int)) = true := by simp; omega
    have HL := hid hl
    clear hl hcall
    go_enter Try.func81, Try.ntmps81
    go_wp2_with fail
    go_ret
    exact ⟨ret_bool (by symm; rw [decide_eq_false_iff_not]; intro e; exact HL.out (by rw [e])), Below.refl _ _⟩
theorem SameC_any (v1 v2 : Value) (M N : PNet) (w : World) (h1 : NetAt w v1 M) (h2 : NetAt w v2 N) :
    Calls Try.prog 37 #[v1, v2] w fun e w' => e = .returned (.bool (decide (M = N))) ∧ Below w.heap.size w w' := by
  obtain ⟨vp, vg, rfl, ho, hp, hgt⟩ := h1
  obtain ⟨vp2, vg2, rfl, ho2, hp2, hgt2⟩ := h2
  obtain ⟨w1, hw1, -, -, z1, hB1, q1⟩ := new_block w #[vp, vg, .int .i64 M.out] 25
  obtain ⟨w2, hw2, -, -, z2, hB12, q2⟩ := new_block w1 #[vp2, vg2, .int .i64 N.out] 25
  have hB02 := below_then hB1 hB1.size hB12
  have rows : ∀ W, Below w2.heap.size w2 W → (W.cell? ⟨w.heap.size, 0, none⟩ = some vp ∧ W.cell? ⟨w.heap.size, 1, none⟩ = some vg ∧ W.cell? ⟨w.heap.size, 2, none⟩ = some (.int .i64 M.out)) ∧
      (W.cell? ⟨w1.heap.size, 0, none⟩ = some vp2 ∧ W.cell? ⟨w1.heap.size, 1, none⟩ = some vg2 ∧ W.cell? ⟨w1.heap.size, 2, none⟩ = some (.int .i64 N.out)) := fun W hW =>
    ⟨⟨cell_row (row_below (row_below q1 hB12) hW) rfl, cell_row (row_below (row_below q1 hB12) hW) rfl, cell_row (row_below (row_below q1 hB12) hW) rfl⟩,
      ⟨cell_row (row_below q2 hW) rfl, cell_row (row_below q2 hW) rfl, cell_row (row_below q2 hW) rfl⟩⟩
  rw [z1] at rows
  obtain ⟨⟨a0, a1, a2⟩, ⟨b0, b1, b2⟩⟩ := rows w2 (Below.refl _ _)
  have CP := equalFunc_blocks 79 #[] #[] (enters_of Try.func79 (by kernel_rfl) rfl) vp vp2 M.pre N.pre w2 (hp.keep (keeps_below hB02)) (hp2.keep (keeps_below hB02)) (fun e1 e2 u1 u2 l1 l2 W => eq79 e1 e2 u1 u2 l1 l2 W)
  have CG := fun W (hW : Below w2.heap.size w2 W) => equalFunc_gates 82 #[] #[] (enters_of Try.func82 (by kernel_rfl) rfl) vg vg2 M.gates N.gates W (hgt.keep (keeps_below (below_then hB02 hB02.size hW))) (hgt2.keep (keeps_below (below_then hB02 hB02.size hW))) (fun x1 x2 k1 k2 u1 u2 l1 l2 W => eq82 x1 x2 k1 k2 u1 u2 l1 l2 W)
  have HD : Hid (∀ q, decide (M = N) = q → (M.out = N.out ∧ decide (M.pre = N.pre) = true ∧ decide (M.gates = N.gates) = true) = (q = true)) := fun q hq => by
    subst hq; simp only [decide_eq_true_eq]; exact propext net_eq.symm
  generalize decide (M.pre = N.pre) = r1 at CP HD
  generalize decide (M.gates = N.gates) = r2 at CG HD
  generalize decide (M = N) = q at HD ⊢
  by_cases hout : M.out = N.out
  · have hz : (M.out == N.out) = true := by simp [hout]
    have HO := hid hout
    clear hout
    cases r1 with
    | false =>
      have hq : q = false := by
        cases q with
        | false => rfl
        | true => have := (HD.out _ rfl).mpr rfl; simp at this
      subst hq
      clear HD
      go_enter Try.func37, Try.ntmps37
      go_wp2_with (go_at_call 78; refine CP.mono ?_; rintro e w3 ⟨rfl, hB3⟩)
      go_ret
      exact ⟨rfl, below_then hB02 hB02.size hB3⟩
    | true =>
      have hq : q = r2 := by
        have := HD.out _ rfl
        have h1 := HO.out
        cases q <;> cases r2 <;> simp_all
      subst hq
      clear HD
      go_enter Try.func37, Try.ntmps37
      go_wp2_with (first | (go_at_call 78; refine CP.mono ?_; rintro e w3 ⟨rfl, hB3⟩; obtain ⟨⟨c0, c1, c2⟩, ⟨d0, d1, d2⟩⟩ := rows w3 hB3) | (go_at_call 81; refine (CG _ hB3).mono ?_; rintro e w4 ⟨rfl, hB4⟩))
      go_ret
      exact ⟨rfl, below_then hB02 hB02.size (below_then hB3 hB3.size hB4)⟩
  · have hz : (M.out == N.out) = false := by simp [hout]
    have hq : q = false := by
      cases q with
      | false => rfl
      | true => exact absurd ((HD.out _ rfl).mpr rfl).1 hout
    subst hq
    clear HD hout
    go_enter Try.func37, Try.ntmps37
    go_wp2_with fail
    go_ret
    exact ⟨rfl, hB02⟩
end Go.Proofs.Ytnlobmepajakcaa
