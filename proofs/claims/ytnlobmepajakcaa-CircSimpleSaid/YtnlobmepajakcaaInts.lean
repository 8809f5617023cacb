/- What the reference's Ints does; no condition but that both lists read as data. -/
import Derived.Test.YtnlobmepajakcaaComp
set_option linter.unusedVariables false
set_option linter.unusedSimpArgs false
namespace Go.Proofs.Ytnlobmepajakcaa
open Go.RowKit Go.Shelf

theorem drop_ne {xs ys : List Int} {j : Nat} {x y : Int} (hx : xs[j]? = some x) (hy : ys[j]? = some y) (h : x ≠ y) : decide (xs = ys) = false := by
  rw [decide_eq_false_iff_not]; intro e; rw [e] at hx; rw [hx] at hy; injection hy with hy; exact h hy
theorem Ints_any (v1 v2 : Value) (xs ys : List Int) (w : World) (h1 : IntsAt w v1 xs) (h2 : IntsAt w v2 ys) :
    Calls Try.prog 38 #[v1, v2] w fun e w' => e = .returned (.bool (decide (xs = ys))) ∧ Below w.heap.size w w' := by
  obtain ⟨A, c, rfl, hlc, hcm⟩ := h1.form
  obtain ⟨A2, c2, rfl, hlc2, hcm2⟩ := h2.form
  by_cases hl : xs.length = ys.length
  · have hz : ((xs.length : Int) != (ys.length : Int)) = false := by simp [hl]
    have HL := hid hl
    clear hl
    go_enter Try.func38, Try.ntmps38
    go_wp2_with fail
    go_loopg [5] xs.length (fun gg s5 wr => ∃ j : Nat, j ≤ xs.length ∧ xs.length - j ≤ gg ∧ s5 = .int .i64 j ∧ Below w.heap.size w wr ∧ Aside (xs.take j = ys.take j))
    case atStart => exact ⟨0, Nat.zero_le _, by omega, rfl, Below.refl _ _, rfl⟩
    case round =>
      obtain ⟨j, hj, hg, rfl, hB, hT⟩ := hrel
      by_cases hlt : j < xs.length
      · obtain ⟨x, hx, -, -⟩ := nth hlt
        obtain ⟨y, hy, -, -⟩ := nth (show j < ys.length by rw [← HL.out]; exact hlt)
        obtain ⟨b, off, rfl, hcx, -⟩ := (h1.keep (keeps_below hB)).at_ j x hx
        obtain ⟨b2, off2, rfl, hcy, -⟩ := (h2.keep (keeps_below hB)).at_ j y hy
        have hltz : (j : Int) < (xs.length : Int) := by omega
        have hltz2 : (j : Int) < (ys.length : Int) := by rw [← HL.out]; omega
        have hj0 : 0 ≤ (j : Int) := by omega
        have g1 := fun p => cell_since hcx p
        have g2 := fun p => cell_since hcy p
        have HXY := hid (And.intro hx hy)
        have HT := hid hT
        clear hx hy hT
        go_wp2_with fail
        refine region_quiet (by kernel_rfl) (by kernel_rfl) ?_
        repeat (first | go_big_quiet_step (fail) | quiet_step (fail))
        refine wpQuiet_nil ?_
        rintro W2 ⟨pw, hW2⟩
        have hB2 : Below wr.heap.size wr W2 := by rw [hW2]; exact since_below wr pw
        clear hW2 g1 g2
        have hB3 := below_then hB hB.size hB2
        by_cases hne : x = y
        · have hz2 : (x != y) = false := by simp [hne]
          have HN := hid hne
          clear hne
          go_wp2_with fail
          go_roundg (xs.length - (j + 1))
          case measure => omega
          case rel =>
            refine ⟨j + 1, by omega, by omega, by go_num, hB3, ?_⟩
            show xs.take (j + 1) = ys.take (j + 1)
            rw [take_snoc HXY.out.1, take_snoc HXY.out.2, HT.out, HN.out]
        · have hz2 : (x != y) = true := by simp [hne]
          have HN := hid hne
          clear hne
          go_wp2_with fail
          go_ret
          exact ⟨ret_bool (drop_ne HXY.out.1 HXY.out.2 HN.out).symm, hB3⟩
      · have hltz : ¬ (j : Int) < (xs.length : Int) := by omega
        have he : xs = ys := by
          have := hT
          rw [List.take_of_length_le (by omega : xs.length ≤ j), List.take_of_length_le (by have := HL.out; omega : ys.length ≤ j)] at this
          exact this
        have HE := hid he
        clear he hT
        go_wp2_with fail
        go_ret
        exact ⟨ret_bool (decide_eq_true HE.out).symm, hB⟩
  · have hz : ((xs.length : Int) != (ys.length : Int)) = true := by simp; omega
    have HL := hid hl
    clear hl
    go_enter Try.func38, Try.ntmps38
    go_wp2_with fail
    go_ret
    exact ⟨ret_bool (by symm; rw [decide_eq_false_iff_not]; intro e; exact HL.out (by rw [e])), Below.refl _ _⟩
end Go.Proofs.Ytnlobmepajakcaa
