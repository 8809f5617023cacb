/- What circ.Eval and what it calls do; no condition but that what they are given reads as data. -/
import Derived.Test.YtnlobmepajakcaaMay
import Derived.Laws.EntriesVeiled
set_option linter.unusedVariables false
set_option linter.unusedSimpArgs false
namespace Go.Proofs.Ytnlobmepajakcaa
open Go.RowKit Go.Shelf

/-- The value of a literal. -/
def holdsV (V : Nat → Bool) (l : Int) : Bool := V (absN l) == decide (0 < l)
set_option maxHeartbeats 1000000 in
theorem of_any (b t : Nat) (V : Nat → Bool) (l : Int) (w : World) (hs : SetAt w b t V) :
    Calls Try.prog 55 #[.pointer (some ⟨b, 0, none⟩), .int .i64 l] w fun e w' => e = .returned (.bool (holdsV V l)) ∧ ∃ n, w' = w.drewN n := by
  have hc := hs.cell (absN l) (absN_lt l)
  have h1 := absN_lt l
  have A := abs_any l
  clear hs
  unfold holdsV
  revert hc h1 A
  generalize absN l = k
  generalize V k = r
  intro hc h1 A
  go_enter Try.func55, Try.ntmps55
  go_wp2_with fail
  go_quiet ((go_at_call 59; exact Calls.quiet_of_same (A _)))
  go_wp2
  go_ret
  exact ⟨rfl, _, rfl⟩
set_option maxHeartbeats 1000000 in
theorem eval102 (b t B : Nat) (V : Nat → Bool) (l : Int) (w : World) (hs : SetAt w b t V) (hc : w.cell? ⟨B, 0, none⟩ = some (.pointer (some ⟨b, 0, none⟩))) :
    Calls Try.prog 102 (#[] ++ #[.int .i64 l] ++ #[.pointer (some ⟨B, 0, none⟩)]) w fun e w' => e = .returned (.bool (!holdsV V l)) ∧ ∃ n, w' = w.drewN n := by
  have C := of_any b t V l w hs
  generalize holdsV V l = r at C ⊢
  go_enter Try.func102, Try.ntmps102
  go_wp2_with (go_at_call 55; refine C.mono ?_; rintro e w' ⟨rfl, n, rfl⟩)
  go_ret
  exact ⟨rfl, n, rfl⟩
set_option maxHeartbeats 1000000 in
theorem eval101 (b t : Nat) (V : Nat → Bool) (v : Value) (xs : List Int) (w : World) (hs : SetAt w b t V) (h : IntsAt w v xs) :
    Calls Try.prog 101 #[.pointer (some ⟨b, 0, none⟩), v] w fun e w' => e = .returned (.bool (!xs.any fun l => !holdsV V l)) ∧ Below w.heap.size w w' := by
  obtain ⟨W1, hW1, hc, hf, hz, hB, hh⟩ := new_block w #[.pointer (some ⟨b, 0, none⟩)] 94
  have hc0 := hc 0 _ rfl
  have hs1 := hs.below hB
  have hi1 := h.keep (keeps_below hB)
  have C := containsFunc_ints (fun l => !holdsV V l) 102 #[] #[.pointer (some ⟨w.heap.size, 0, none⟩)] (enters_of Try.func102 (by kernel_rfl) rfl) v xs W1
    (fun W => Below W1.heap.size W1 W) (Below.refl _ _) (fun W hW => hi1.keep (keeps_below hW))
    (fun l W _ hW => (eval102 b t w.heap.size V l W (hs1.below hW) (keeps_below hW _ _ hc0)).mono fun e W' ⟨he, n, hw⟩ => ⟨he, by rw [hw]; exact below_drewN hW n⟩)
  generalize (xs.any fun l => !holdsV V l) = r at C ⊢
  clear hc hf hz hh hs1 hi1 hc0
  go_enter Try.func101, Try.ntmps101
  go_wp2_with (go_at_call 43; refine C.mono ?_; rintro e w' ⟨rfl, hB'⟩)
  go_ret
  exact ⟨rfl, below_then hB hB.size hB'⟩
set_option maxHeartbeats 1000000 in
theorem eval103 (b t : Nat) (V : Nat → Bool) (v : Value) (xs : List Int) (w : World) (hs : SetAt w b t V) (h : IntsAt w v xs) :
    Calls Try.prog 103 #[.pointer (some ⟨b, 0, none⟩), v] w fun e w' => e = .returned (.bool (xs.any fun l => holdsV V l)) ∧ Below w.heap.size w w' := by
  have C := containsFunc_ints (fun l => holdsV V l) 55 #[.pointer (some ⟨b, 0, none⟩)] #[] (enters_of Try.func55 (by kernel_rfl) rfl) v xs w
    (fun W => Below w.heap.size w W) (Below.refl _ _) (fun W hW => h.keep (keeps_below hW))
    (fun l W _ hW => (of_any b t V l W (hs.below hW)).mono fun e W' ⟨he, n, hw⟩ => ⟨he, by rw [hw]; exact below_drewN hW n⟩)
  generalize (xs.any fun l => holdsV V l) = r at C ⊢
  go_enter Try.func103, Try.ntmps103
  go_wp2_with (go_at_call 43; refine C.mono ?_; rintro e w' ⟨rfl, hB'⟩)
  go_ret
  exact ⟨rfl, hB'⟩
set_option maxHeartbeats 1000000 in
theorem eval104 (b t : Nat) (V : Nat → Bool) (v : Value) (x y : Int) (w : World) (hs : SetAt w b t V) (h : IntsAt w v [x, y]) :
    Calls Try.prog 104 #[.pointer (some ⟨b, 0, none⟩), v] w fun e w' => e = .returned (.bool (holdsV V x != holdsV V y)) ∧ Below w.heap.size w w' := by
  obtain ⟨A, c, rfl, hlc, hcm⟩ := SlAt.form h
  obtain ⟨bi, off, rfl, hx, -⟩ := h.at_ 0 x rfl
  obtain ⟨_, _, e, hy, -⟩ := h.at_ 1 y rfl
  cases e
  rw [Nat.add_zero] at hx
  have hl : ([x, y] : List Int).length = 2 := rfl
  have Cq : ∀ l n, Calls Try.prog 55 #[.pointer (some ⟨b, 0, none⟩), .int .i64 l] (w.drewN n) fun e w' => e = .returned (.bool (holdsV V l)) ∧ ∃ m, w' = (w.drewN n).drewN m := fun l n => of_any b t V l _ (hs.drewN n)
  clear hs h hl
  go_enter Try.func104, Try.ntmps104
  go_wp2_with fail
  go_quiet ((go_at_call 55; exact Calls.quiet_of (Cq _ _)))
  go_wp2
  go_ret
  exact ⟨rfl, below_drewN (Below.refl _ _) _⟩
set_option maxHeartbeats 1000000 in
theorem eval105 (b t : Nat) (V : Nat → Bool) (v : Value) (x y z : Int) (w : World) (hs : SetAt w b t V) (h : IntsAt w v [x, y, z]) :
    Calls Try.prog 105 #[.pointer (some ⟨b, 0, none⟩), v] w fun e w' => e = .returned (.bool (if holdsV V x then holdsV V y else holdsV V z)) ∧ Below w.heap.size w w' := by
  obtain ⟨A, c, rfl, hlc, hcm⟩ := SlAt.form h
  obtain ⟨bi, off, rfl, hx, -⟩ := h.at_ 0 x rfl
  obtain ⟨_, _, e, hy, -⟩ := h.at_ 1 y rfl
  cases e
  obtain ⟨_, _, e, hz, -⟩ := h.at_ 2 z rfl
  cases e
  rw [Nat.add_zero] at hx
  have Cx := of_any b t V x w hs
  have Cy : ∀ n, Calls Try.prog 55 #[.pointer (some ⟨b, 0, none⟩), .int .i64 y] (w.drewN n) fun e w' => e = .returned (.bool (holdsV V y)) ∧ ∃ m, w' = (w.drewN n).drewN m := fun n => of_any b t V y _ (hs.drewN n)
  have Cz : ∀ n, Calls Try.prog 55 #[.pointer (some ⟨b, 0, none⟩), .int .i64 z] (w.drewN n) fun e w' => e = .returned (.bool (holdsV V z)) ∧ ∃ m, w' = (w.drewN n).drewN m := fun n => of_any b t V z _ (hs.drewN n)
  generalize holdsV V x = p at Cx ⊢
  generalize holdsV V y = q at Cy ⊢
  generalize holdsV V z = r at Cz ⊢
  clear hs h
  cases p with
  | true =>
    go_enter Try.func105, Try.ntmps105
    go_wp2_with fail
    refine Cx.mono ?_
    rintro e w1 ⟨rfl, n, rfl⟩
    go_wp2_with fail
    refine (Cy n).mono ?_
    rintro e w1 ⟨rfl, m, rfl⟩
    go_wp2_with fail
    go_ret
    exact ⟨rfl, below_drewN (Below.refl _ _) _⟩
  | false =>
    go_enter Try.func105, Try.ntmps105
    go_wp2_with fail
    refine Cx.mono ?_
    rintro e w1 ⟨rfl, n, rfl⟩
    go_wp2_with fail
    refine (Cz n).mono ?_
    rintro e w1 ⟨rfl, m, rfl⟩
    go_wp2_with fail
    go_ret
    exact ⟨rfl, below_drewN (Below.refl _ _) _⟩

/-- The value of a gate. -/
def gateV (V : Nat → Bool) (kind : Int) (ins : List Int) : Bool :=
  if kind = 1 then !ins.any fun l => !holdsV V l else if kind = 2 then ins.any fun l => holdsV V l else if kind = 3 then
    (match ins with | [x, y] => holdsV V x != holdsV V y | _ => false) else (match ins with | [x, y, z] => if holdsV V x then holdsV V y else holdsV V z | _ => false)
/-- The evaluator of a kind. -/
def evalF (kind : Int) : Nat := if kind = 1 then 101 else if kind = 2 then 103 else if kind = 3 then 104 else 105
theorem evalF_any (b t : Nat) (V : Nat → Bool) (v : Value) (kind : Int) (xs : List Int) (w : World) (hs : SetAt w b t V) (h : IntsAt w v xs) (hk : shapedB kind xs.length = true) :
    Calls Try.prog (evalF kind) #[.pointer (some ⟨b, 0, none⟩), v] w fun e w' => e = .returned (.bool (gateV V kind xs)) ∧ Below w.heap.size w w' := by
  unfold shapedB at hk
  unfold evalF gateV
  by_cases h1 : kind = 1
  · simp only [if_pos h1]; exact eval101 b t V v xs w hs h
  · by_cases h2 : kind = 2
    · simp only [if_neg h1, if_pos h2]; exact eval103 b t V v xs w hs h
    · by_cases h3 : kind = 3
      · simp only [if_neg h1, if_neg h2, if_pos h3, decide_eq_true_eq] at hk ⊢
        match xs, hk with
        | [x, y], _ => exact eval104 b t V v x y w hs h
      · by_cases h4 : kind = 4
        · simp only [if_neg h1, if_neg h2, if_neg h3, if_pos h4, decide_eq_true_eq] at hk ⊢
          match xs, hk with
          | [x, y, z], _ => exact eval105 b t V v x y z w hs h
        · simp [if_neg h1, if_neg h2, if_neg h3, if_neg h4] at hk

set_option maxHeartbeats 1000000 in
theorem evaluators_any (w : World) :
    Calls Try.prog 90 #[] w fun e w' => e = .returned (.agg #[.nilFunc, .func (.func 101) #[] #[], .func (.func 103) #[] #[], .func (.func 104) #[] #[], .func (.func 105) #[] #[]]) ∧ Below w.heap.size w w' := by
  go_enter Try.func90, Try.ntmps90
  go_wp2
  exact bodyPost_ret (results_cell_row (p := 0) (ty := 129) rfl _ _ w.heap.size 129 _ (0, 0) _ rfl (heap_alloc_new w _) Try.underlying129 rfl (by kernel_rfl)) rfl ⟨rfl, (Below.refl _ _).alloc (Nat.le_refl _) _⟩
end Go.Proofs.Ytnlobmepajakcaa
