/- What the small functions of package circ do: abs, has, add, shaped, literals, normal; no condition but that what they are given reads as data. -/
import Derived.Test.YtnlobmepajakcaaBase
set_option linter.unusedVariables false
set_option linter.unusedSimpArgs false
namespace Go.Proofs.Ytnlobmepajakcaa
open Go.RowKit Go.Shelf

def absI (l : Int) : Int := if l < -65536 then 0 else if 65536 < l then 0 else if l < 0 then -l else l
theorem absI_nn (l : Int) : 0 ≤ absI l ∧ absI l ≤ 65536 := by unfold absI; omega
/-- The place of a literal in a set. -/
def absN (l : Int) : Nat := (absI l).toNat
theorem absN_lt (l : Int) : absN l < 65537 := by have := absI_nn l; unfold absN; omega
theorem absN_cast (l : Int) : (absN l : Int) = absI l := by have := absI_nn l; unfold absN; omega

set_option maxHeartbeats 400000 in
theorem abs_any0 (a : Int) (w : World) :
    Calls Try.prog 59 #[.int .i64 a] w fun e w' => e = .returned (.int .i64 (absI a)) ∧ w' = w := by
  by_cases h1 : a < -65536
  · go_enter Try.func59, Try.ntmps59
    go_wp2
    go_ret
    exact ⟨ret_int (by unfold absI; omega), rfl⟩
  · by_cases h2 : 65536 < a
    · go_enter Try.func59, Try.ntmps59
      go_wp2
      go_ret
      exact ⟨ret_int (by unfold absI; omega), rfl⟩
    · go_enter Try.func59, Try.ntmps59
      go_wp2
      all_goals
        go_ret
        exact ⟨ret_int (by unfold absI; omega), rfl⟩
theorem abs_any (a : Int) (w : World) :
    Calls Try.prog 59 #[.int .i64 a] w fun e w' => e = .returned (.int .i64 (absN a : Int)) ∧ w' = w := by
  rw [absN_cast]; exact abs_any0 a w

set_option maxHeartbeats 400000 in
theorem has_any (b t : Nat) (S : Nat → Bool) (l : Int) (w : World) (hs : SetAt w b t S) :
    Calls Try.prog 45 #[.pointer (some ⟨b, 0, none⟩), .int .i64 l] w fun e w' => e = .returned (.bool (S (absN l))) ∧ ∃ n, w' = w.drewN n := by
  have hc := hs.cell (absN l) (absN_lt l)
  have h1 := absN_lt l
  have A := abs_any l
  clear hs
  revert hc h1 A
  generalize absN l = k
  intro hc h1 A
  go_enter Try.func45, Try.ntmps45
  go_wp2_with fail
  go_quiet ((go_at_call 59; exact Calls.quiet_of_same (A _)))
  go_wp2
  go_ret
  exact ⟨rfl, _, rfl⟩

/-- May a variable be added to a set? -/
def addB (S : Nat → Bool) (v : Int) : Bool := decide (1 ≤ v) && decide (v ≤ 65536) && !S v.toNat
set_option maxHeartbeats 400000 in
theorem add_yes (b t : Nat) (S : Nat → Bool) (v : Int) (w : World) (hs : SetAt w b t S) (h : addB S v = true) :
    Calls Try.prog 65 #[.pointer (some ⟨b, 0, none⟩), .int .i64 v] w fun e w' => e = .returned (.bool true) ∧ w' = w.setCell ⟨b, v.toNat, none⟩ (.bool true) := by
  simp only [addB, Bool.and_eq_true, decide_eq_true_eq, Bool.not_eq_true'] at h
  obtain ⟨⟨h1, h2⟩, h3⟩ := h
  obtain ⟨k, rfl⟩ := Int.eq_ofNat_of_zero_le (show 0 ≤ v by omega)
  rw [Int.toNat_natCast] at h3 ⊢
  have hc := hs.cell k (by omega)
  have hf := hs.free k
  rw [h3] at hc
  clear hs h3
  have h1' : ¬ (k : Int) < 1 := by omega
  have h2' : ¬ 65536 < (k : Int) := by omega
  go_enter Try.func65, Try.ntmps65
  go_wp2
  go_ret
  exact ⟨rfl, rfl⟩
set_option maxHeartbeats 400000 in
theorem add_no (b t : Nat) (S : Nat → Bool) (v : Int) (w : World) (hs : SetAt w b t S) (h : addB S v = false) :
    Calls Try.prog 65 #[.pointer (some ⟨b, 0, none⟩), .int .i64 v] w fun e w' => e = .returned (.bool false) ∧ w' = w := by
  by_cases h1 : v < 1
  · go_enter Try.func65, Try.ntmps65
    go_wp2
    go_ret
    exact ⟨rfl, rfl⟩
  · by_cases h2 : 65536 < v
    · go_enter Try.func65, Try.ntmps65
      go_wp2
      go_ret
      exact ⟨rfl, rfl⟩
    · obtain ⟨k, rfl⟩ := Int.eq_ofNat_of_zero_le (show 0 ≤ v by omega)
      have h3 : S k = true := by
        simp only [addB, Int.toNat_natCast] at h
        rw [decide_eq_true (by omega), decide_eq_true (by omega)] at h
        simpa using h
      have hc := hs.cell k (by omega)
      rw [h3] at hc
      clear hs h3 h
      go_enter Try.func65, Try.ntmps65
      go_wp2
      go_ret
      exact ⟨rfl, rfl⟩
def addS (S : Nat → Bool) (v : Int) : Nat → Bool := if addB S v then upd S v.toNat true else S
theorem add_any (b t : Nat) (S : Nat → Bool) (v : Int) (w : World) (hs : SetAt w b t S) :
    Calls Try.prog 65 #[.pointer (some ⟨b, 0, none⟩), .int .i64 v] w fun e w' => e = .returned (.bool (addB S v)) ∧ SetAt w' b t (addS S v) ∧ w.grownBy w' (some b) := by
  cases h : addB S v with
  | true =>
    refine (add_yes b t S v w hs h).mono ?_
    rintro e w' ⟨rfl, rfl⟩
    refine ⟨rfl, ?_, grown_setCell w ⟨b, v.toNat, none⟩ _⟩
    unfold addS
    rw [if_pos h]
    exact hs.store _ _
  | false =>
    refine (add_no b t S v w hs h).mono ?_
    rintro e w' ⟨rfl, rfl⟩
    refine ⟨rfl, ?_, World.grownBy.refl _ _⟩
    unfold addS
    rw [if_neg (by rw [h]; simp)]
    exact hs

/-- Does a gate of a kind want so many literals? -/
def shapedB (kind : Int) (n : Nat) : Bool := if kind = 1 then true else if kind = 2 then true else if kind = 3 then decide (n = 2) else if kind = 4 then decide (n = 3) else false
set_option maxHeartbeats 1000000 in
theorem shaped_any (x y : Int) (A : Option Addr) (n c : Nat) (w : World) (hn : n ≤ 9223372036854775807) :
    Calls Try.prog 67 #[.agg #[.int .i64 x, .int .u8 y, .slice A n c]] w fun e w' => e = .returned (.bool (shapedB y n)) ∧ Below w.heap.size w w' := by
  have key : ∀ r, shapedB y n = r → Calls Try.prog 67 #[.agg #[.int .i64 x, .int .u8 y, .slice A n c]] w fun e w' => e = .returned (.bool r) ∧ Below w.heap.size w w' := by
    intro r hr
    by_cases h1 : y = 1
    · subst h1
      simp [shapedB] at hr
      subst hr
      go_enter Try.func67, Try.ntmps67
      go_wp2
      go_ret
      exact ⟨rfl, (Below.refl _ _).alloc (Nat.le_refl _) _⟩
    · by_cases h2 : y = 2
      · subst h2
        simp [shapedB] at hr
        subst hr
        go_enter Try.func67, Try.ntmps67
        go_wp2
        go_ret
        exact ⟨rfl, (Below.refl _ _).alloc (Nat.le_refl _) _⟩
      · by_cases h3 : y = 3
        · subst h3
          simp [shapedB] at hr
          subst hr
          go_enter Try.func67, Try.ntmps67
          go_wp2
          go_ret
          exact ⟨ret_bool (by rw [Bool.eq_iff_iff]; simp; omega), (Below.refl _ _).alloc (Nat.le_refl _) _⟩
        · by_cases h4 : y = 4
          · subst h4
            simp [shapedB] at hr
            subst hr
            go_enter Try.func67, Try.ntmps67
            go_wp2
            go_ret
            exact ⟨ret_bool (by rw [Bool.eq_iff_iff]; simp; omega), (Below.refl _ _).alloc (Nat.le_refl _) _⟩
          · unfold shapedB at hr
            rw [if_neg h1, if_neg h2, if_neg h3, if_neg h4] at hr
            subst hr
            have b1 : (y == 1) = false := by simpa using h1
            have b2 : (y == 2) = false := by simpa using h2
            have b3 : (y == 3) = false := by simpa using h3
            have b4 : (y == 4) = false := by simpa using h4
            clear h1 h2 h3 h4
            go_enter Try.func67, Try.ntmps67
            go_wp2
            go_ret
            exact ⟨rfl, (Below.refl _ _).alloc (Nat.le_refl _) _⟩
  exact key _ rfl
end Go.Proofs.Ytnlobmepajakcaa
