/- What the reference's small functions do: Abs, variable, In, shape, known, marks, Vars; the conditions: lists read as data, what is marked lies from 0 to 65,536. -/
import Derived.Test.YtnlobmepajakcaaWorks
set_option linter.unusedVariables false
set_option linter.unusedSimpArgs false
namespace Go.Proofs.Ytnlobmepajakcaa
open Go.RowKit Go.Shelf

/-- The reference's Abs. -/
def absR (l : Int) : Int := if l < 0 then (if l = -9223372036854775808 then 0 else -l) else l
theorem absR_any (l : Int) (w : World) (h : I64 l) : Calls Try.prog 30 #[.int .i64 l] w fun e w' => e = .returned (.int .i64 (absR l)) ∧ w' = w := by
  unfold I64 at h
  by_cases h0 : l < 0
  · by_cases h1 : l = -9223372036854775808
    · subst h1
      go_enter Try.func30, Try.ntmps30
      go_wp2
      go_ret
      exact ⟨ret_int (by first | decide +kernel | (simp [absR, wrap64]; done) | (unfold wrap64 absR; omega)), rfl⟩
    · have hw : IntKind.i64.wrap (-l) = -l := IntWalk.i64_in _ (by omega)
      have HH := hid h1
      clear h1
      go_enter Try.func30, Try.ntmps30
      go_wp2
      all_goals
        go_ret
        exact ⟨ret_int (by unfold absR; rw [if_pos h0, if_neg HH.out]; omega), rfl⟩
  · have hd : decide (l < 0) = false := decide_eq_false h0
    have HH := hid h0
    clear h0
    go_enter Try.func30, Try.ntmps30
    go_wp2
    go_ret
    exact ⟨ret_int (by unfold absR; rw [if_neg (by have := HH.out; omega)]), rfl⟩
def varB (v : Int) : Bool := decide (1 ≤ v) && decide (v ≤ 65536)
theorem variable_any (v : Int) (w : World) : Calls Try.prog 51 #[.int .i64 v] w fun e w' => e = .returned (.bool (varB v)) ∧ w' = w := by
  unfold varB
  by_cases h1 : 1 ≤ v
  · rw [decide_eq_true h1]
    go_enter Try.func51, Try.ntmps51
    go_wp2
    go_ret
    exact ⟨rfl, rfl⟩
  · rw [decide_eq_false h1]
    go_enter Try.func51, Try.ntmps51
    go_wp2
    go_ret
    exact ⟨rfl, rfl⟩
theorem absR_var {l : Int} : varB (absR l) = true ↔ 1 ≤ absN l := by
  unfold varB absR absN absI
  simp only [Bool.and_eq_true, decide_eq_true_eq]
  repeat' split
  all_goals omega
theorem absR_eq {l : Int} (h : 1 ≤ absN l) : absR l = (absN l : Int) := by
  have hl := absN_pos h
  rw [← absI_N]
  unfold absR absI
  repeat' split
  all_goals omega
theorem In_any (v : Value) (xs : List Int) (y : Int) (w : World) (h : IntsAt w v xs) : Calls Try.prog 29 #[v, .int .i64 y] w fun e w' => e = .returned (.bool (decide (y ∈ xs))) ∧ w' = w := by
  obtain ⟨A, c, rfl, hlc, hcm⟩ := h.form
  go_enter Try.func29, Try.ntmps29
  go_wp2_with fail
  go_loopg [5] xs.length (fun gg s5 wr => ∃ j : Nat, j ≤ xs.length ∧ xs.length - j ≤ gg ∧ s5 = .int .i64 j ∧ wr = w ∧ Aside (y ∉ xs.take j))
  case atStart => exact ⟨0, Nat.zero_le _, by omega, rfl, rfl, by show y ∉ _; simp⟩
  case round =>
    obtain ⟨j, hj, hg, rfl, rfl, hT⟩ := hrel
    by_cases hlt : j < xs.length
    · obtain ⟨x, hx, hm, -⟩ := nth hlt
      obtain ⟨b, off, rfl, hcx, -⟩ := h.at_ j x hx
      have hltz : (j : Int) < (xs.length : Int) := by omega
      have HT := hid hT
      have HX := hid hx
      have HM := hid hm
      clear hT hx hm
      by_cases he : x = y
      · have hz : (x == y) = true := by rw [beq_iff_eq]; exact he
        have HE := hid he
        clear he
        go_wp2_with fail
        go_ret
        exact ⟨ret_bool (by symm; rw [decide_eq_true_eq, ← HE.out]; exact HM.out), rfl⟩
      · have hz : (x == y) = false := by rw [beq_eq_false_iff_ne]; exact he
        have HE := hid he
        clear he
        go_wp2_with fail
        go_roundg (xs.length - (j + 1))
        case measure => omega
        case rel =>
          refine ⟨j + 1, by omega, by omega, by go_num, rfl, ?_⟩
          show y ∉ xs.take (j + 1)
          rw [take_snoc HX.out, List.mem_append, List.mem_singleton]
          rintro (h | h)
          · exact HT.out h
          · exact HE.out h.symm
    · have hltz : ¬ (j : Int) < (xs.length : Int) := by omega
      have he : y ∉ xs := by
        have : y ∉ xs.take j := hT
        rwa [List.take_of_length_le (by omega : xs.length ≤ j)] at this
      have HE := hid he
      clear he hT
      go_wp2_with fail
      go_ret
      exact ⟨ret_bool (decide_eq_false HE.out).symm, rfl⟩
set_option maxHeartbeats 1000000 in
theorem shape_any (x y : Int) (A : Option Addr) (n c : Nat) (w : World) (hn : n ≤ 9223372036854775807) :
    Calls Try.prog 52 #[.agg #[.int .i64 x, .int .u8 y, .slice A n c]] w fun e w' => e = .returned (.bool (shapedB y n)) ∧ Below w.heap.size w w' := by
  have key : ∀ r, shapedB y n = r → Calls Try.prog 52 #[.agg #[.int .i64 x, .int .u8 y, .slice A n c]] w fun e w' => e = .returned (.bool r) ∧ Below w.heap.size w w' := by
    intro r hr
    by_cases h1 : y = 1
    · subst h1
      simp [shapedB] at hr
      subst hr
      go_enter Try.func52, Try.ntmps52
      go_wp2
      go_ret
      exact ⟨rfl, (Below.refl _ _).alloc (Nat.le_refl _) _⟩
    · by_cases h2 : y = 2
      · subst h2
        simp [shapedB] at hr
        subst hr
        go_enter Try.func52, Try.ntmps52
        go_wp2
        go_ret
        exact ⟨rfl, (Below.refl _ _).alloc (Nat.le_refl _) _⟩
      · by_cases h3 : y = 3
        · subst h3
          simp [shapedB] at hr
          subst hr
          go_enter Try.func52, Try.ntmps52
          go_wp2
          go_ret
          exact ⟨ret_bool (by rw [Bool.eq_iff_iff]; simp; omega), (Below.refl _ _).alloc (Nat.le_refl _) _⟩
        · by_cases h4 : y = 4
          · subst h4
            simp [shapedB] at hr
            subst hr
            go_enter Try.func52, Try.ntmps52
            go_wp2
            go_ret
            exact ⟨ret_bool (by rw [Bool.eq_iff_iff]; simp; omega), (Below.refl _ _).alloc (Nat.le_refl _) _⟩
          · unfold shapedB at hr
            rw [if_neg h1, if_neg h2, if_neg h3, if_neg h4] at hr
            subst hr
            have b1 : (y == 1) = false := by simpa using h1
            have b2 : (y == 2) = false := by simpa using h2
            have b3 : (y == 3) = false := by simpa using h3
            have b4 : (y == 4) = false := by simpa using h4
            clear h1 h2 h3 h4
            go_enter Try.func52, Try.ntmps52
            go_wp2
            go_ret
            exact ⟨rfl, (Below.refl _ _).alloc (Nat.le_refl _) _⟩
  exact key _ rfl

/-- A slice of 65,537 bools in a block of its own. -/
theorem known_any (b t : Nat) (S : Nat → Bool) (l : Int) (w : World) (hS : SetAt w b t S) (hR : SetR S) (hl : I64 l) : Calls Try.prog 53 #[.slice (some ⟨b, 0, none⟩) 65537 65537, .int .i64 l] w fun e w' => e = .returned (.bool (S (absN l))) ∧ w' = w := by
  have CA := fun W => absR_any l W hl
  by_cases h : 1 ≤ absN l
  · have e := absR_eq h
    rw [e] at CA
    have hq := absN_lt l
    have CV := fun W => variable_any (absN l : Int) W
    have hv : varB (absN l : Int) = true := by unfold varB; simp; omega
    rw [hv] at CV
    have hc := hS.cell (absN l) hq
    clear e hv h
    revert CA CV hc hq
    generalize absN l = q
    intro CA hq CV hc
    generalize S q = r at hc ⊢
    clear hS hR
    go_enter Try.func53, Try.ntmps53
    go_wp2_with (first | (go_at_call 30; refine (CA _).mono ?_; rintro e w' ⟨rfl, rfl⟩) | (go_at_call 51; refine (CV _).mono ?_; rintro e w' ⟨rfl, rfl⟩))
    go_ret
    exact ⟨rfl, rfl⟩
  · have h0 : absN l = 0 := by omega
    have hS0 : S (absN l) = false := by
      cases hq : S (absN l) with
      | false => rfl
      | true => have := (hR _ hq).1; omega
    have hv : varB (absR l) = false := by
      cases hq : varB (absR l) with
      | false => rfl
      | true => exact absurd (absR_var.1 hq) h
    have CV := fun W => variable_any (absR l) W
    rw [hv] at CV
    rw [hS0]
    clear hv hS0 h h0 hS hR
    revert CA CV
    generalize absR l = q
    intro CA CV
    go_enter Try.func53, Try.ntmps53
    go_wp2_with (first | (go_at_call 30; refine (CA _).mono ?_; rintro e w' ⟨rfl, rfl⟩) | (go_at_call 51; refine (CV _).mono ?_; rintro e w' ⟨rfl, rfl⟩))
    go_ret
    exact ⟨rfl, rfl⟩
end Go.Proofs.Ytnlobmepajakcaa
