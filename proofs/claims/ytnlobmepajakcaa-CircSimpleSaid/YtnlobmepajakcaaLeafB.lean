/- What the small loops do: literals, normal, slices.Equal, slices.Index, slices.IndexFunc, slices.ContainsFunc; no condition but that what they are given reads as data and that a predicate keeps what it promises. -/
import Derived.Test.YtnlobmepajakcaaLeafA
set_option linter.unusedVariables false
set_option linter.unusedSimpArgs false
namespace Go.Proofs.Ytnlobmepajakcaa
open Go.RowKit Go.Shelf

def litSum : List PGate → Nat
  | [] => 0
  | g :: gs => g.ins.length + litSum gs
theorem litSum_drop (gs : List PGate) (k : Nat) : litSum (gs.drop k) ≤ litSum gs := by
  induction gs generalizing k with
  | nil => simp
  | cons g gs ih =>
    cases k with
    | zero => simp
    | succ k => have := ih k; simp only [List.drop_succ_cons, litSum]; omega

set_option maxHeartbeats 1000000 in
theorem literals_any (v : Value) (gs : List PGate) (w : World) (h : GatesAt w v gs) (hs : litSum gs ≤ 4611686018427387904) :
    Calls Try.prog 57 #[v] w fun e w' => e = .returned (.int .i64 (litSum gs : Int)) ∧ Below w.heap.size w w' := by
  obtain ⟨A, c, rfl, hlc, hcm⟩ := SlAt.form h
  have hlen : gs.length ≤ 9223372036854775807 := by omega
  have HS := hid hs
  clear hs
  go_enter Try.func57, Try.ntmps57
  go_wp2
  go_loopg [2, 4, 7] gs.length (fun gg s2 _ s7 wr => ∃ k n : Nat, k ≤ gs.length ∧ gs.length - k ≤ gg ∧ s7 = .int .i64 k ∧ s2 = .int .i64 n ∧ n ≤ 4611686018427387904 ∧ Below w.heap.size w wr ∧ Rem (litSum gs) (n + litSum (gs.drop k)))
  case atStart => exact ⟨0, 0, Nat.zero_le _, by omega, rfl, rfl, by omega, Below.refl _ _, ⟨by simp⟩⟩
  case round =>
    obtain ⟨k, n, hk, hg, rfl, rfl, hn, hB, HA⟩ := hrel
    by_cases hlt : k < gs.length
    · obtain ⟨x, hx, hmem, hd⟩ := nth hlt
      obtain ⟨b, off, vi, rfl, hc0, hc1, hc2, hi, -, -, -⟩ := (h.keep (keeps_below hB)).at_ k x hx
      obtain ⟨Ai, ci, rfl, hli, hci⟩ := SlAt.form hi
      have hltz : (k : Int) < (gs.length : Int) := by omega
      have HD := hid hd
      have HX := hid hx
      have hbd : n + x.ins.length ≤ 4611686018427387904 := by
        have h1 := HS.out
        have h2 := HA.out
        rw [hd] at h2
        simp only [litSum] at h2
        omega
      clear hd hx
      go_wp2
      go_roundg (gs.length - (k + 1))
      case measure => omega
      case rel =>
        refine ⟨k + 1, n + x.ins.length, by omega, by omega, by go_num, by go_num, hbd, ?_, ⟨?_⟩⟩
        · exact ((hB.alloc hB.size _))
        · rw [HA.out, HD.out]; simp only [litSum]; omega
    · have hltz : ¬ (k : Int) < (gs.length : Int) := by omega
      go_wp2
      go_ret
      exact ⟨ret_int (by rw [HA.out, List.drop_eq_nil_of_le (by omega)]; simp [litSum]), hB⟩

def normFrom : Int → List Int → Bool
  | _, [] => true
  | last, l :: ls => if absI l ≤ last then false else normFrom (absI l) ls
set_option maxHeartbeats 1000000 in
theorem normal_any (v : Value) (xs : List Int) (w : World) (h : IntsAt w v xs) :
    Calls Try.prog 41 #[v] w fun e w' => e = .returned (.bool (normFrom 0 xs)) ∧ w' = w := by
  obtain ⟨A, c, rfl, hlc, hcm⟩ := SlAt.form h
  have hlen : xs.length ≤ 9223372036854775807 := by omega
  go_enter Try.func41, Try.ntmps41
  go_wp2
  go_loopg [3, 5, 8] xs.length (fun gg s3 _ s8 wr => ∃ (k : Nat) (last : Int), k ≤ xs.length ∧ xs.length - k ≤ gg ∧ s8 = .int .i64 k ∧ s3 = .int .i64 last ∧ wr = w ∧ Rem (normFrom 0 xs) (normFrom last (xs.drop k)))
  case atStart => exact ⟨0, 0, Nat.zero_le _, by omega, rfl, rfl, rfl, ⟨by simp⟩⟩
  case round =>
    obtain ⟨k, last, hk, hg, rfl, rfl, rfl, HA⟩ := hrel
    by_cases hlt : k < xs.length
    · obtain ⟨x, hx, hmem, hd⟩ := nth hlt
      obtain ⟨b, off, rfl, hc0, -⟩ := h.at_ k x hx
      have hltz : (k : Int) < (xs.length : Int) := by omega
      have HD := hid hd
      clear hd hx h
      by_cases hq : absI x ≤ last
      · go_wp2_with (go_at_call 59; refine (abs_any0 x _).mono ?_; rintro e w' ⟨rfl, rfl⟩)
        go_ret
        exact ⟨ret_bool (by rw [HA.out, HD.out]; simp [normFrom, hq]), rfl⟩
      · go_wp2_with (go_at_call 59; refine (abs_any0 x _).mono ?_; rintro e w' ⟨rfl, rfl⟩)
        go_roundg (xs.length - (k + 1))
        case measure => omega
        case rel => exact ⟨k + 1, absI x, by omega, by omega, by go_num, rfl, rfl, ⟨by rw [HA.out, HD.out]; simp [normFrom, hq]⟩⟩
    · have hltz : ¬ (k : Int) < (xs.length : Int) := by omega
      go_wp2
      go_ret
      exact ⟨ret_bool (by rw [HA.out, List.drop_eq_nil_of_le (by omega)]; rfl), rfl⟩

def idxFrom {α : Type} (p : α → Bool) : Int → List α → Int
  | _, [] => -1
  | i, x :: xs => if p x then i else idxFrom p (i + 1) xs

set_option maxHeartbeats 1000000 in
theorem indexFunc_ints (p : Int → Bool) (g : Nat) (fs cb : Array Value) (eg : ∀ args w, (callFunc g args).run Try.prog w = .ok (.enter g args) w) (v : Value) (xs : List Int) (w : World)
    (Inv : World → Prop) (hI : Inv w) (hv : ∀ W, Inv W → IntsAt W v xs)
    (hcall : ∀ x W, x ∈ xs → Inv W → Calls Try.prog g (fs ++ #[.int .i64 x] ++ cb) W (fun e W' => e = .returned (.bool (p x)) ∧ Inv W')) :
    Calls Try.prog 86 #[v, .func (.func g) fs cb] w fun e w' => e = .returned (.int .i64 (idxFrom p 0 xs)) ∧ Inv w' := by
  obtain ⟨A, c, rfl, hlc, hcm⟩ := SlAt.form (hv w hI)
  have hlen : xs.length ≤ 9223372036854775807 := by omega
  go_enter Try.func86, Try.ntmps86
  go_wp2
  go_loopg [5, 8] xs.length (fun gg _ s8 wr => ∃ k : Nat, k ≤ xs.length ∧ xs.length - k ≤ gg ∧ s8 = .int .i64 k ∧ Inv wr ∧ Rem (idxFrom p 0 xs) (idxFrom p k (xs.drop k)))
  case atStart => exact ⟨0, Nat.zero_le _, by omega, rfl, hI, ⟨rfl⟩⟩
  case round =>
    obtain ⟨k, hk, hg, rfl, hIw, HA⟩ := hrel
    by_cases hlt : k < xs.length
    · obtain ⟨x, hx, hmem, hd⟩ := nth hlt
      obtain ⟨b, off, rfl, hc0, -⟩ := (hv wr hIw).at_ k x hx
      have hcall1 := hcall x wr hmem hIw
      have hltz : (k : Int) < (xs.length : Int) := by omega
      have HD := hid hd
      clear hd hx hcall hv
      cases hq : p x with
      | true =>
        rw [hq] at hcall1
        have HQ := hid hq
        clear hq
        go_wp2_with (go_at_fn g; refine hcall1.mono ?_; rintro e w' ⟨rfl, hI'⟩)
        go_ret
        exact ⟨ret_int (by rw [HA.out, HD.out]; simp [idxFrom, HQ.out]), hI'⟩
      | false =>
        rw [hq] at hcall1
        have HQ := hid hq
        clear hq
        go_wp2_with (go_at_fn g; refine hcall1.mono ?_; rintro e w' ⟨rfl, hI'⟩)
        go_roundg (xs.length - (k + 1))
        case measure => omega
        case rel => exact ⟨k + 1, by omega, by omega, by go_num, hI', ⟨by rw [HA.out, HD.out]; simp [idxFrom, HQ.out]⟩⟩
    · have hltz : ¬ (k : Int) < (xs.length : Int) := by omega
      go_wp2
      go_ret
      exact ⟨ret_int (by rw [HA.out, List.drop_eq_nil_of_le (by omega)]; rfl), hIw⟩

theorem idxFrom_nonneg {α : Type} (p : α → Bool) (xs : List α) : ∀ i : Int, 0 ≤ i → (0 ≤ idxFrom p i xs ↔ xs.any p = true) := by
  induction xs with
  | nil => intro i hi; simp [idxFrom]
  | cons x xs ih =>
    intro i hi
    unfold idxFrom
    rw [List.any_cons]
    by_cases h : p x = true
    · rw [if_pos h, h]; simpa using hi
    · rw [if_neg h, Bool.eq_false_iff.2 h, Bool.false_or]; exact ih (i + 1) (by omega)
theorem idxFrom_any {α : Type} (p : α → Bool) (xs : List α) : xs.any p = decide (0 ≤ idxFrom p 0 xs) := by
  rw [Bool.eq_iff_iff, decide_eq_true_eq]; exact (idxFrom_nonneg p xs 0 (by omega)).symm

set_option maxHeartbeats 1000000 in
theorem containsFunc_ints (p : Int → Bool) (g : Nat) (fs cb : Array Value) (eg : ∀ args w, (callFunc g args).run Try.prog w = .ok (.enter g args) w) (v : Value) (xs : List Int) (w : World)
    (Inv : World → Prop) (hI : Inv w) (hv : ∀ W, Inv W → IntsAt W v xs)
    (hcall : ∀ x W, x ∈ xs → Inv W → Calls Try.prog g (fs ++ #[.int .i64 x] ++ cb) W (fun e W' => e = .returned (.bool (p x)) ∧ Inv W')) :
    Calls Try.prog 43 #[v, .func (.func g) fs cb] w fun e w' => e = .returned (.bool (xs.any p)) ∧ Inv w' := by
  have C := indexFunc_ints p g fs cb eg v xs w Inv hI hv hcall
  rw [idxFrom_any]
  generalize idxFrom p 0 xs = r at C ⊢
  clear hcall hv hI
  go_enter Try.func43, Try.ntmps43
  go_wp2_with (go_at_call 86; refine C.mono ?_; rintro e w' ⟨rfl, hI'⟩)
  go_ret
  exact ⟨rfl, hI'⟩

end Go.Proofs.Ytnlobmepajakcaa
