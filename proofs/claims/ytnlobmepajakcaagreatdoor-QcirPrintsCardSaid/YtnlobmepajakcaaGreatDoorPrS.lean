/- What the document's printer does: list, words; the conditions: literals of at most 65536, at most 1,000,000 of them. -/
import Derived.Test.YtnlobmepajakcaaGreatDoorPrR
set_option linter.unusedVariables false
set_option linter.unusedSimpArgs false
namespace Go.Proofs.YtnlobmepajakcaaGreatDoor
open Go.RowKit Go.Shelf
attribute [local go_sem] Oper.semAt_some

theorem numberR_any : ∀ (n : Nat) (w : World), n ≤ 1000000000 → Calls Tryz.prog 62 #[.int .i64 (n : Int)] w fun e w' => e = .returned (.string ⟨(digP n).toArray⟩) ∧ Below w.heap.size w w' := by
  intro n
  induction n using Nat.strongRecOn with
  | ind n ih =>
    intro w hn
    by_cases h : n < 10
    · exact number_small n w h
    · exact number_big n (n / 10) (n % 10) w h hn rfl rfl (fun w => ih (n / 10) (by omega) w (by omega))
theorem lit_str (P : Bs) (j : Nat) (x : Int) (l : List Int) (h : l[j]? = some x) (a b : Bool) (hj : decide (0 < j) = a) (hx : decide (x < 0) = b) (hP : P = litsP (l.take j)) :
    litsP (l.take (j + 1)) = (if a = true then P ++ [44, 32] else []) ++ ((if b = true then [45] else []) ++ digP x.natAbs) := by
  rw [lits_take h, hP]
  subst hj hx
  simp only [decide_eq_true_eq]
theorem lits_zero {l : List Int} : litsP (l.take 0) = [] := rfl
set_option maxRecDepth 100000 in
set_option maxHeartbeats 4000000 in
theorem listR_any (v : Value) (xs : List Int) (w : World) (h : IntsAt w v xs) (hx : ∀ x ∈ xs, -65536 ≤ x ∧ x ≤ 65536) (hn : xs.length ≤ 1000000) :
    Calls Tryz.prog 61 #[v] w fun e w' => e = .returned (.string ⟨(litsP xs).toArray⟩) ∧ Below w.heap.size w w' := by
  obtain ⟨A, c, rfl, hlc, hcm⟩ := h.form
  have HX := hid hx
  clear hx
  go_enter Tryz.func61, Tryz.ntmps61
  go_wp2_with fail
  go_loopg [3, 4] xs.length (fun gg s3 s4 wr => ∃ (j : Nat) (P : Bs), j ≤ xs.length ∧ xs.length - j ≤ gg ∧ s3 = .string ⟨P.toArray⟩ ∧ s4 = .int .i64 (j : Int) ∧ Below w.heap.size w wr ∧ Hid (P = litsP (xs.take j)))
  case atStart => exact ⟨0, [], Nat.zero_le _, by omega, rfl, rfl, Below.refl _ _, rfl⟩
  case round =>
    obtain ⟨j, P, hj, hg, rfl, rfl, hB, HP⟩ := hrel
    have hPl : P.length ≤ 8000000 := by rw [HP.out]; exact lits_take_len HX.out hn j
    by_cases hlt : j < xs.length
    · have hltz : (j : Int) < (xs.length : Int) := by omega
      obtain ⟨x, hxj, hxm, -⟩ := nth hlt
      obtain ⟨bx, ox, rfl, hcx, hx64⟩ := (h.keep (keeps_below hB)).at_ j x hxj
      have hxr := HX.out x hxm
      have CA := absR_any x wr hx64
      rw [absR_nat hxr] at CA
      have CN := numberR_any x.natAbs wr (by omega)
      have hdl : (digP x.natAbs).length ≤ 10 := digP_len (by omega)
      generalize hD : digP x.natAbs = D at CN hdl
      cases hj0 : decide (0 < j) with
      | true =>
        have hjz : (0 : Int) < (j : Int) := by have := of_decide_eq_true hj0; omega
        cases hx0 : decide (x < 0) with
        | true =>
          have hL := hid (lit_str P j x xs hxj _ _ hj0 hx0 HP.out)
          have hxz : x < 0 := of_decide_eq_true hx0
          have HD := hid hD
          clear hxj hxm hx64 hxr hj0 hx0 hD
          go_wp2_with (first | (go_at_call 54; refine CA.mono ?_; rintro e w1 ⟨rfl, hw⟩; obtain rfl : wr = w1 := hw.symm) | (go_at_call 62; refine CN.mono ?_; rintro e w2 ⟨rfl, hB2⟩) | fail)
          go_roundg (xs.length - (j + 1))
          case measure => omega
          case rel => exact ⟨j + 1, P ++ [44, 32] ++ [45] ++ D, by omega, by omega, str_eq (by rw [show (⟨#[44, 32]⟩ : ByteArray) = ⟨([44, 32] : Bs).toArray⟩ from rfl, show (⟨#[45]⟩ : ByteArray) = ⟨([45] : Bs).toArray⟩ from rfl, ba_app, ba_app, ba_app]), by go_num, below_then hB hB.size hB2, by show _ = _; rw [hL.out, HD.out]; simp⟩
        | false =>
          have hL := hid (lit_str P j x xs hxj _ _ hj0 hx0 HP.out)
          have hxz : ¬ x < 0 := of_decide_eq_false hx0
          have HD := hid hD
          clear hxj hxm hx64 hxr hj0 hD
          go_wp2_with (first | (go_at_call 54; refine CA.mono ?_; rintro e w1 ⟨rfl, hw⟩; obtain rfl : wr = w1 := hw.symm) | (go_at_call 62; refine CN.mono ?_; rintro e w2 ⟨rfl, hB2⟩) | fail)
          go_roundg (xs.length - (j + 1))
          case measure => omega
          case rel => exact ⟨j + 1, P ++ [44, 32] ++ D, by omega, by omega, str_eq (by rw [show (⟨#[44, 32]⟩ : ByteArray) = ⟨([44, 32] : Bs).toArray⟩ from rfl, ba_app, ba_app]), by go_num, below_then hB hB.size hB2, by show _ = _; rw [hL.out, HD.out]; simp⟩
      | false =>
        have hjz : ¬ (0 : Int) < (j : Int) := by have := of_decide_eq_false hj0; omega
        have hP0 : P = [] := by
          have : j = 0 := by omega
          subst this
          exact HP.out
        cases hx0 : decide (x < 0) with
        | true =>
          have hL := hid (lit_str P j x xs hxj _ _ hj0 hx0 HP.out)
          have hxz : x < 0 := of_decide_eq_true hx0
          have HD := hid hD
          have HP0 := hid hP0
          clear hxj hxm hx64 hxr hx0 hD hP0
          have hjd : decide ((0 : Int) < (j : Int)) = false := decide_eq_false hjz
          clear hj0
          go_wp2_with (first | (go_at_call 54; refine CA.mono ?_; rintro e w1 ⟨rfl, hw⟩; obtain rfl : wr = w1 := hw.symm) | (go_at_call 62; refine CN.mono ?_; rintro e w2 ⟨rfl, hB2⟩) | fail)
          go_roundg (xs.length - (j + 1))
          case measure => omega
          case rel => exact ⟨j + 1, P ++ [45] ++ D, by omega, by omega, str_eq (by rw [show (⟨#[45]⟩ : ByteArray) = ⟨([45] : Bs).toArray⟩ from rfl, ba_app, ba_app]), by go_num, below_then hB hB.size hB2, by show _ = _; rw [hL.out, HD.out, HP0.out]; simp⟩
        | false =>
          have hL := hid (lit_str P j x xs hxj _ _ hj0 hx0 HP.out)
          have hxz : ¬ x < 0 := of_decide_eq_false hx0
          have HD := hid hD
          have HP0 := hid hP0
          clear hxj hxm hx64 hxr hx0 hD hP0
          have hjd : decide ((0 : Int) < (j : Int)) = false := decide_eq_false hjz
          clear hj0
          go_wp2_with (first | (go_at_call 54; refine CA.mono ?_; rintro e w1 ⟨rfl, hw⟩; obtain rfl : wr = w1 := hw.symm) | (go_at_call 62; refine CN.mono ?_; rintro e w2 ⟨rfl, hB2⟩) | fail)
          go_roundg (xs.length - (j + 1))
          case measure => omega
          case rel => exact ⟨j + 1, P ++ D, by omega, by omega, str_eq (by rw [ba_app]), by go_num, below_then hB hB.size hB2, by show _ = _; rw [hL.out, HD.out, HP0.out]; simp⟩
    · have hltz : ¬ (j : Int) < (xs.length : Int) := by omega
      have hje : j = xs.length := by omega
      have hPP : P = litsP xs := by rw [HP.out, hje, List.take_length]
      have HPP := hid hPP
      clear hPP hje
      go_wp2_with fail
      go_ret
      exact ⟨ret_str (by rw [HPP.out]), hB⟩
set_option maxRecDepth 100000 in
theorem words_any (w : World) : Calls Tryz.prog 63 #[] w fun e w' => e = .returned (.slice (some ⟨w.heap.size, 0, none⟩) 4 4) ∧ Below w.heap.size w w' ∧ w'.heap[w.heap.size]? = some (.cells #[sv wAnd, sv wOr, sv wXor, sv wIte] 9 (0, 0)) ∧ w'.heap.size = w.heap.size + 1 := by
  obtain ⟨w1, hw1, -, -, hz1, hB1, q1⟩ := new_block w #[sv wAnd, sv wOr, sv wXor, sv wIte] 9
  unfold sv wAnd wOr wXor wIte at hw1
  go_enter Tryz.func63, Tryz.ntmps63
  go_wp2_with fail
  go_ret
  exact ⟨rfl, hB1, q1, hz1⟩
end Go.Proofs.YtnlobmepajakcaaGreatDoor
