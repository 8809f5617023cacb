/- What Read of qcir goes through, over the numbered lines; no condition. -/
import Derived.Test.YtnlobmepajakcaaGreatDoorRdI
import Derived.Test.YtnlobmepajakcaaGreatDoorRdO
set_option linter.unusedVariables false
set_option linter.unusedSimpArgs false
namespace Go.Proofs.YtnlobmepajakcaaGreatDoor
open Go.RowKit Go.Shelf

/-- linesP over lines that are not blank, with their numbers. -/
def linesN (L : Bs → PLine) (r : RS) : List (Nat × Bs) → (Int × Nat) × RS
  | [] => ((0, 0), r)
  | x :: xs => if (addL r x.1 (L x.2)).1 = 0 then linesN L (addL r x.1 (L x.2)).2 xs else (((addL r x.1 (L x.2)).1, x.1), r)
theorem linesN_cons (L : Bs → PLine) (r : RS) (x : Nat × Bs) (xs : List (Nat × Bs)) : linesN L r (x :: xs) = if (addL r x.1 (L x.2)).1 = 0 then linesN L (addL r x.1 (L x.2)).2 xs else (((addL r x.1 (L x.2)).1, x.1), r) := rfl
theorem linesP_cons (L : Bs → PLine) (r : RS) (no : Nat) (t : Bs) (ts : List Bs) : linesP L r no (t :: ts) = if blankB t = true then linesP L r (no + 1) ts else if (addL r no (L t)).1 = 0 then linesP L (addL r no (L t)).2 (no + 1) ts else (((addL r no (L t)).1, no), r) := rfl
theorem numbered_cons (no : Nat) (t : Bs) (ts : List Bs) : numbered no (t :: ts) = if blankB t = true then numbered (no + 1) ts else (no, t) :: numbered (no + 1) ts := rfl
theorem linesP_N (L : Bs → PLine) : ∀ (ts : List Bs) (r : RS) (no : Nat), linesP L r no ts = linesN L r (numbered no ts)
  | [], r, no => rfl
  | t :: ts, r, no => by
    rw [linesP_cons, numbered_cons]
    by_cases hb : blankB t = true
    · rw [if_pos hb, if_pos hb]
      exact linesP_N L ts r (no + 1)
    · rw [if_neg hb, if_neg hb, linesN_cons]
      by_cases h0 : (addL r no (L t)).1 = 0
      · rw [if_pos h0, if_pos h0]
        exact linesP_N L ts _ (no + 1)
      · rw [if_neg h0, if_neg h0]
theorem linesN_app (L : Bs → PLine) : ∀ (pre : List (Nat × Bs)) (r R : RS), linesN L r pre = ((0, 0), R) → ∀ rest, linesN L r (pre ++ rest) = linesN L R rest
  | [], r, R, h, rest => by
    have h' : ((0, 0), r) = (((0 : Int), 0), R) := h
    injection h' with _ h'
    subst h'
    rfl
  | x :: xs, r, R, h, rest => by
    rw [linesN_cons] at h
    rw [List.cons_append, linesN_cons]
    by_cases h0 : (addL r x.1 (L x.2)).1 = 0
    · rw [if_pos h0] at h ⊢
      exact linesN_app L xs _ R h rest
    · rw [if_neg h0] at h
      injection h with h _
      injection h with h _
      exact absurd h h0
theorem numbered_mem : ∀ (ts : List Bs) (no : Nat) (x : Nat × Bs), x ∈ numbered no ts → no ≤ x.1 ∧ x.1 < no + ts.length ∧ x.2 ∈ ts ∧ blankB x.2 = false
  | [], no, x, h => by cases h
  | t :: ts, no, x, h => by
    unfold numbered at h
    by_cases hb : blankB t = true
    · rw [if_pos hb] at h
      obtain ⟨h1, h2, h3, h4⟩ := numbered_mem ts (no + 1) x h
      exact ⟨by omega, by simp only [List.length_cons]; omega, List.mem_cons_of_mem _ h3, h4⟩
    · rw [if_neg hb] at h
      rcases List.mem_cons.1 h with rfl | h
      · exact ⟨Nat.le_refl _, by simp, by simp, by simpa using hb⟩
      · obtain ⟨h1, h2, h3, h4⟩ := numbered_mem ts (no + 1) x h
        exact ⟨by omega, by simp only [List.length_cons]; omega, List.mem_cons_of_mem _ h3, h4⟩
theorem numbered_after : ∀ (ts : List Bs) (no : Nat) (pre : List (Nat × Bs)) (x : Nat × Bs) (rest : List (Nat × Bs)), numbered no ts = pre ++ x :: rest → ∀ y ∈ rest, x.1 + 1 ≤ y.1
  | [], no, pre, x, rest, h => by simp [numbered] at h
  | t :: ts, no, pre, x, rest, h => by
    unfold numbered at h
    by_cases hb : blankB t = true
    · rw [if_pos hb] at h
      exact numbered_after ts (no + 1) pre x rest h
    · rw [if_neg hb] at h
      cases pre with
      | nil =>
        simp only [List.nil_append, List.cons.injEq] at h
        obtain ⟨rfl, rfl⟩ := h
        intro y hy
        have := (numbered_mem ts (no + 1) y hy).1
        simp only []; omega
      | cons p ps =>
        simp only [List.cons_append, List.cons.injEq] at h
        exact numbered_after ts (no + 1) ps x rest h.2
theorem split_len : ∀ s : Bs, (splitNL s).length ≤ s.length ∧ ∀ t ∈ splitNL s, t.length ≤ s.length
  | [] => by simp [splitNL]
  | c :: r => by
    obtain ⟨h1, h2⟩ := split_len r
    have e : splitNL (c :: r) = if c = 10 then [] :: splitNL r else consHead c (splitNL r) := rfl
    rw [e]
    split
    · refine ⟨by simp only [List.length_cons]; omega, fun t ht => ?_⟩
      rcases List.mem_cons.1 ht with rfl | ht
      · simp
      · have := h2 t ht; simp only [List.length_cons]; omega
    · cases hs : splitNL r with
      | nil =>
        refine ⟨by simp [consHead], fun t ht => ?_⟩
        simp only [consHead, List.mem_singleton] at ht
        subst ht; simp
      | cons a ls =>
        rw [hs] at h1 h2
        refine ⟨by simp only [consHead, List.length_cons] at h1 ⊢; omega, fun t ht => ?_⟩
        simp only [consHead] at ht
        rcases List.mem_cons.1 ht with rfl | ht
        · have := h2 a (by simp); simp only [List.length_cons]; omega
        · have := h2 t (by simp [ht]); simp only [List.length_cons]; omega
set_option maxRecDepth 100000 in
/-- Read's closure over the literals of a gate. -/
theorem strange44 (q r : Nat) (pv gv av : Value) (R : RS) (x : Int) (w : World) (hq : w.cell? ⟨q, 0, none⟩ = some (.pointer (some ⟨r, 0, none⟩))) (h : RdAt w r pv gv av R) (h1 : -65536 ≤ x) (h2 : x ≤ 65536) :
    Calls Tryz.prog 44 #[.int .i64 x, .pointer (some ⟨q, 0, none⟩)] w fun e w' => e = .returned (.bool (!R.seen (absN x))) ∧ w' = w := by
  have CK := known42_any r pv gv av R x w h h1 h2
  clear h1 h2
  go_enter Tryz.func44, Tryz.ntmps44
  go_wp2_with (first | (go_at_call 42; refine CK.mono ?_; rintro e w' ⟨rfl, hw⟩; obtain rfl : w = w' := hw.symm) | fail)
  go_ret
  exact ⟨rfl, rfl⟩
end Go.Proofs.YtnlobmepajakcaaGreatDoor
