/- What the document's printer does: number, list, words; the conditions: numbers of at most 1,000,000,000, literals of at most 65536, at most 1,000,000 of them. -/
import Derived.Test.YtnlobmepajakcaaGreatDoorPrB
import Derived.Test.YtnlobmepajakcaaGreatDoorRef
import Derived.Laws.IdiomStrings
set_option linter.unusedVariables false
set_option linter.unusedSimpArgs false
namespace Go.Proofs.YtnlobmepajakcaaGreatDoor
open Go.RowKit Go.Shelf
attribute [local go_sem] Oper.semAt_some

theorem digP_dec (n : Nat) : digP n = Lib.decDigits n := digF_dec _ _ (Nat.lt_succ_self _)
theorem digP_small {n : Nat} (h : n < 10) : digP n = [UInt8.ofNat (48 + n)] := by
  rw [digP_dec, Lib.decDigits, dif_pos h]
theorem digP_big {n : Nat} (h : ¬ n < 10) : digP n = digP (n / 10) ++ [UInt8.ofNat (48 + n % 10)] := by
  rw [digP_dec, digP_dec, Lib.decDigits, dif_neg h]
theorem byte_string {w : World} {a : Nat} {c d : Nat} {x : Int} {t : TypeId} {fz : Nat × Nat} (hx : x = (d : Int)) (hd : d < 256) (h : w.heap[a]? = some (.cells #[.int .u8 x] t fz)) :
    (convert 22 9 (.slice (some ⟨a, 0, none⟩) 1 c)).run Tryz.prog w = .ok (.string ⟨#[UInt8.ofNat d]⟩) w := by
  have hn : (UInt8.ofNat d).toNat = d := by rw [UInt8.toNat_ofNat']; omega
  refine run_convert_bytes_back w 22 9 5 ⟨a, 0, none⟩ c [UInt8.ofNat d] Tryz.underlying22 Tryz.underlying5 Tryz.underlying9 (fun j hj => ?_)
  have hj0 : j = 0 := by simp at hj; omega
  subst hj0
  have : (⟨a, 0, none⟩ : Addr).add 0 = ⟨a, 0, none⟩ := by unfold Addr.add; split <;> simp_all
  rw [this]
  show w.cell? ⟨a, 0, none⟩ = some (.int .u8 ((UInt8.ofNat d).toNat : Int))
  rw [hn, ← hx]
  exact cell_row h rfl
set_option maxRecDepth 100000 in
set_option maxHeartbeats 1000000 in
theorem number_small (n : Nat) (w : World) (h : n < 10) : Calls Tryz.prog 62 #[.int .i64 (n : Int)] w fun e w' => e = .returned (.string ⟨(digP n).toArray⟩) ∧ Below w.heap.size w w' := by
  have hz : (n : Int) < 10 := by omega
  rw [digP_small h]
  obtain ⟨w1, hw1, -, -, hz1, hB1, q1⟩ := new_block w #[.int .u8 (48 + (n : Int))] 5
  have hcv := byte_string (c := 1) (d := 48 + n) (by omega) (by omega) q1
  generalize UInt8.ofNat (48 + n) = c at hcv ⊢
  go_enter Tryz.func62, Tryz.ntmps62
  go_wp2_with fail
  go_ret
  exact ⟨rfl, hB1⟩
/-- The numeral's length. -/
theorem digP_len {n : Nat} (h : n ≤ 1000000000) : (digP n).length ≤ 10 := by
  have := digF_len 9 (n + 1) n (by omega)
  unfold digP
  omega
theorem lits_snoc : ∀ (l : List Int) (x : Int), litsP (l ++ [x]) = (if l = [] then [] else litsP l ++ [44, 32]) ++ intP x
  | [], x => by simp [litsP]
  | [y], x => by simp [litsP]
  | y :: z :: l, x => by
    have ih := lits_snoc (z :: l) x
    have e1 : litsP ((y :: z :: l) ++ [x]) = intP y ++ [44, 32] ++ litsP ((z :: l) ++ [x]) := rfl
    have e2 : litsP (y :: z :: l) = intP y ++ [44, 32] ++ litsP (z :: l) := rfl
    rw [e1, ih, e2]
    simp
theorem lits_take {l : List Int} {j : Nat} {x : Int} (h : l[j]? = some x) : litsP (l.take (j + 1)) = (if 0 < j then litsP (l.take j) ++ [44, 32] else []) ++ ((if x < 0 then [45] else []) ++ digP x.natAbs) := by
  have hj := (List.getElem?_eq_some_iff.1 h).1
  rw [take_snoc h, lits_snoc]
  have e : (l.take j = []) ↔ ¬ 0 < j := by
    constructor
    · intro e
      have := congrArg List.length e
      rw [List.length_take, List.length_nil] at this
      omega
    · intro e
      have : j = 0 := by omega
      subst this; rfl
  congr 1
  · by_cases hz : 0 < j
    · rw [if_pos hz, if_neg (fun h => e.1 h hz)]
    · rw [if_neg hz, if_pos (e.2 hz)]
  · unfold intP
    by_cases hx : x < 0
    · rw [if_pos hx, if_pos hx, show (-x).toNat = x.natAbs by omega]; rfl
    · rw [if_neg hx, if_neg hx, show x.toNat = x.natAbs by omega]; rfl
theorem lits_take_len {l : List Int} (h : ∀ x ∈ l, -65536 ≤ x ∧ x ≤ 65536) (hn : l.length ≤ 1000000) (j : Nat) : (litsP (l.take j)).length ≤ 8000000 := by
  refine litsP_le _ (fun x hx => h x (List.mem_of_mem_take hx)) ?_
  rw [List.length_take]; omega
theorem absR_nat {x : Int} (h : -65536 ≤ x ∧ x ≤ 65536) : absR x = (x.natAbs : Int) := by
  unfold absR
  split
  · rw [if_neg (by omega)]; omega
  · omega
theorem str_eq {a b : ByteArray} (h : a = b) : Value.string a = .string b := by rw [h]
set_option maxRecDepth 100000 in
set_option maxHeartbeats 1000000 in
theorem number_big (n q r : Nat) (w : World) (h : ¬ n < 10) (hn : n ≤ 1000000000) (hq : n / 10 = q) (hr : n % 10 = r) (ih : ∀ w : World, Calls Tryz.prog 62 #[.int .i64 (q : Int)] w fun e w' => e = .returned (.string ⟨(digP q).toArray⟩) ∧ Below w.heap.size w w') :
    Calls Tryz.prog 62 #[.int .i64 (n : Int)] w fun e w' => e = .returned (.string ⟨(digP n).toArray⟩) ∧ Below w.heap.size w w' := by
  have hz : decide ((n : Int) < 10) = false := decide_eq_false (by omega)
  have hr10 : r < 10 := by omega
  have hql : q ≤ 100000000 := by omega
  have hB0 : ∀ W : World, ∃ w1, W.alloc (.cells #[.int .u8 (48 + (r : Int))] 5) = w1 ∧ Below W.heap.size W w1 ∧ w1.heap.size = W.heap.size + 1 ∧ w1.heap[W.heap.size]? = some (.cells #[.int .u8 (48 + (r : Int))] 5 (0, 0)) := fun W => by
    obtain ⟨w1, hw1, -, -, hz1, hB1, q1⟩ := new_block W #[.int .u8 (48 + (r : Int))] 5
    exact ⟨w1, hw1, hB1, hz1, q1⟩
  have hd : (digP q).length ≤ 10 := digP_len (by omega)
  have hcv : ∀ (W : World) (a c : Nat), W.heap[a]? = some (.cells #[.int .u8 (48 + (r : Int))] 5 (0, 0)) → (convert 22 9 (.slice (some ⟨a, 0, none⟩) 1 c)).run Tryz.prog W = .ok (.string ⟨#[UInt8.ofNat (48 + r)]⟩) W := fun W a c hq =>
    byte_string (d := 48 + r) (by omega) (by omega) hq
  have hdg := digP_big h
  rw [hq, hr] at hdg
  rw [hdg]
  generalize UInt8.ofNat (48 + r) = cc at hcv ⊢
  have HH := hid (And.intro hB0 hcv)
  have hqi : (n : Int) / 10 = (q : Int) := by omega
  have hri : (n : Int).tmod 10 = (r : Int) := by rw [Int.tmod_eq_emod_of_nonneg (by omega)]; omega
  have hw2 : IntKind.i64.wrap (48 + (r : Int)) = 48 + (r : Int) := IntWalk.i64_in _ (by omega)
  have hw3 : IntKind.u8.wrap (48 + (r : Int)) = 48 + (r : Int) := IntWalk.u8_in _ (by omega)
  have hw1 : IntKind.i64.wrap (q : Int) = (q : Int) := IntWalk.i64_in _ (by omega)
  clear hB0 hcv hdg hq hr h hn
  go_enter Tryz.func62, Tryz.ntmps62
  go_wp2_with fail
  refine wp_region_held_drew (S := fun _ => True) (by kernel_rfl) trivial (fun hHeld => ?_)
  have hBd : Below w.heap.size w w.drew := (Below.refl _ w).drew
  generalize w.drew = Wd at *
  refine wpAnyH_take (i := 0) (v := ?vn1) rfl (by kernel_rfl) (by kernel_rfl) (by kernel_rfl) (fun _ _ _ h => h) (Or.inl ⟨by rfl, ?yn1⟩) hHeld ?_
  case yn1 => (intro w' hSw; (try dsimp only at hSw); go_simp); (try with_reducible rfl)
  try simp only [Act.put, List.setIfInBounds_toArray, List.set_cons_zero, List.set_cons_succ]
  refine wpAnyH_take (i := 1) (v := ?vn2) rfl (by kernel_rfl) (by kernel_rfl) (by kernel_rfl) (fun _ _ _ h => h) (Or.inl ⟨by rfl, ?yn2⟩) hHeld ?_
  case yn2 => (intro w' hSw; (try dsimp only at hSw); go_simp); (try with_reducible rfl)
  try simp only [Act.put, List.setIfInBounds_toArray, List.set_cons_zero, List.set_cons_succ]
  refine wpAnyH_take (i := 3) (v := ?vn3) rfl (by kernel_rfl) (by kernel_rfl) (by kernel_rfl) (fun _ _ _ h => h) (Or.inl ⟨by rfl, ?yn3⟩) hHeld ?_
  case yn3 => (intro w' hSw; (try dsimp only at hSw); go_simp); (try with_reducible rfl)
  try simp only [Act.put, List.setIfInBounds_toArray, List.set_cons_zero, List.set_cons_succ]
  refine wpAnyH_take (i := 4) (v := ?vn4) rfl (by kernel_rfl) (by kernel_rfl) (by kernel_rfl) (fun _ _ _ h => h) (Or.inl ⟨by rfl, ?yn4⟩) hHeld ?_
  case yn4 => (intro w' hSw; (try dsimp only at hSw); go_simp); (try with_reducible rfl)
  try simp only [Act.put, List.setIfInBounds_toArray, List.set_cons_zero, List.set_cons_succ]
  refine wpAnyH_take (i := 5) (v := ?vn5) rfl (by kernel_rfl) (by kernel_rfl) (by kernel_rfl) (fun _ _ _ h => h) (Or.inl ⟨by rfl, ?yn5⟩) hHeld ?_
  case yn5 => (intro w' hSw; (try dsimp only at hSw); go_simp); (try with_reducible rfl)
  try simp only [Act.put, List.setIfInBounds_toArray, List.set_cons_zero, List.set_cons_succ]
  refine wpAnyH_take (i := 6) (v := ?vn6) rfl (by kernel_rfl) (by kernel_rfl) (by kernel_rfl) (fun _ _ _ h => h) (Or.inl ⟨by rfl, ?yn6⟩) hHeld ?_
  case yn6 => (intro w' hSw; (try dsimp only at hSw); go_simp); (try with_reducible rfl)
  try simp only [Act.put, List.setIfInBounds_toArray, List.set_cons_zero, List.set_cons_succ]
  refine wpAnyH_ready (rs := [2,7]) (by kernel_rfl) (by simp) ?_
  refine AllReadyH.cons rfl (fun Kc hKc => ?_) (AllReadyH.cons rfl (fun Kc hKc => ?_) AllReadyH.nil)
  · skip
    go_simp
    go_at_call 62
    refine (ih Wd).mono ?_
    rintro e wc ⟨rfl, hBc⟩
    have hBW := below_then hBd hBd.size hBc
    go_wp2_with fail
    refine hKc.out _ _ trivial (fun hHeld => ?_)
    clear hKc Kc
    try simp only [Act.put, List.setIfInBounds_toArray, List.set_cons_zero, List.set_cons_succ]
    refine wpAnyH_ready (rs := [7]) (by kernel_rfl) (by simp) ?_
    refine AllReadyH.cons rfl (fun Kc hKc => ?_) AllReadyH.nil
    obtain ⟨wb, hwb, hBb, hzb, qb⟩ := HH.out.1 wc
    have hB2 := below_then hBW hBW.size hBb
    go_simp
    refine hKc.out _ _ trivial (fun hHeld => ?_)
    clear hKc Kc
    try simp only [Act.put, List.setIfInBounds_toArray, List.set_cons_zero, List.set_cons_succ]
    refine wpAnyH_ready (rs := [8]) (by kernel_rfl) (by simp) ?_
    refine AllReadyH.cons rfl (fun Kc hKc => ?_) AllReadyH.nil
    have hc := HH.out.2 wb wc.heap.size 1 qb
    go_simp
    refine hKc.out _ _ trivial (fun hHeld => ?_)
    clear hKc Kc
    try simp only [Act.put, List.setIfInBounds_toArray, List.set_cons_zero, List.set_cons_succ]
    refine wpAnyH_take (i := 9) (v := ?vn7) rfl (by kernel_rfl) (by kernel_rfl) (by kernel_rfl) (fun _ _ _ h => h) (Or.inl ⟨by rfl, ?yn7⟩) hHeld ?_
    case yn7 => (intro w' hSw; (try dsimp only at hSw); go_simp; rw [if_neg (by omega)]); (try with_reducible rfl)
    try simp only [Act.put, List.setIfInBounds_toArray, List.set_cons_zero, List.set_cons_succ]
    refine wpAnyH_take (i := 10) (v := ?vn8) rfl (by kernel_rfl) (by kernel_rfl) (by kernel_rfl) (fun _ _ _ h => h) (Or.inl ⟨by rfl, ?yn8⟩) hHeld ?_
    case yn8 => (intro w' hSw; (try dsimp only at hSw); go_simp); (try with_reducible rfl)
    try simp only [Act.put, List.setIfInBounds_toArray, List.set_cons_zero, List.set_cons_succ]
    try simp only [Act.put, List.getElem_toArray, List.getElem_cons_succ, List.getElem_cons_zero, List.setIfInBounds_toArray, List.set_cons_zero, List.set_cons_succ]
    try simp only [Act.put, List.setIfInBounds_toArray, List.set_cons_zero, List.set_cons_succ]
    refine wpAnyH_done (by kernel_rfl) ?_ _
    go_wp2_with fail
    go_ret
    exact ⟨ret_str (by rw [show (⟨#[cc]⟩ : ByteArray) = ⟨([cc] : Bs).toArray⟩ from rfl, ba_app]), hB2⟩
  · skip
    obtain ⟨wb, hwb, hBb, hzb, qb⟩ := HH.out.1 Wd
    have hB2 := below_then hBd hBd.size hBb
    go_simp
    refine hKc.out _ _ trivial (fun hHeld => ?_)
    clear hKc Kc
    try simp only [Act.put, List.setIfInBounds_toArray, List.set_cons_zero, List.set_cons_succ]
    refine wpAnyH_ready (rs := [2,8]) (by kernel_rfl) (by simp) ?_
    refine AllReadyH.cons rfl (fun Kc hKc => ?_) (AllReadyH.cons rfl (fun Kc hKc => ?_) AllReadyH.nil)
    · skip
      go_simp
      go_at_call 62
      refine (ih wb).mono ?_
      rintro e wc ⟨rfl, hBc⟩
      have hBW := below_then hB2 hB2.size hBc
      go_wp2_with fail
      refine hKc.out _ _ trivial (fun hHeld => ?_)
      clear hKc Kc
      try simp only [Act.put, List.setIfInBounds_toArray, List.set_cons_zero, List.set_cons_succ]
      refine wpAnyH_ready (rs := [8]) (by kernel_rfl) (by simp) ?_
      refine AllReadyH.cons rfl (fun Kc hKc => ?_) AllReadyH.nil
      have hc := HH.out.2 wc Wd.heap.size 1 (row_below qb hBc)
      go_simp
      refine hKc.out _ _ trivial (fun hHeld => ?_)
      clear hKc Kc
      try simp only [Act.put, List.setIfInBounds_toArray, List.set_cons_zero, List.set_cons_succ]
      refine wpAnyH_take (i := 9) (v := ?vn9) rfl (by kernel_rfl) (by kernel_rfl) (by kernel_rfl) (fun _ _ _ h => h) (Or.inl ⟨by rfl, ?yn9⟩) hHeld ?_
      case yn9 => (intro w' hSw; (try dsimp only at hSw); go_simp; rw [if_neg (by omega)]); (try with_reducible rfl)
      try simp only [Act.put, List.setIfInBounds_toArray, List.set_cons_zero, List.set_cons_succ]
      refine wpAnyH_take (i := 10) (v := ?vn10) rfl (by kernel_rfl) (by kernel_rfl) (by kernel_rfl) (fun _ _ _ h => h) (Or.inl ⟨by rfl, ?yn10⟩) hHeld ?_
      case yn10 => (intro w' hSw; (try dsimp only at hSw); go_simp); (try with_reducible rfl)
      try simp only [Act.put, List.setIfInBounds_toArray, List.set_cons_zero, List.set_cons_succ]
      try simp only [Act.put, List.getElem_toArray, List.getElem_cons_succ, List.getElem_cons_zero, List.setIfInBounds_toArray, List.set_cons_zero, List.set_cons_succ]
      try simp only [Act.put, List.setIfInBounds_toArray, List.set_cons_zero, List.set_cons_succ]
      refine wpAnyH_done (by kernel_rfl) ?_ _
      go_wp2_with fail
      go_ret
      exact ⟨ret_str (by rw [show (⟨#[cc]⟩ : ByteArray) = ⟨([cc] : Bs).toArray⟩ from rfl, ba_app]), hBW⟩
    · skip
      have hc := HH.out.2 wb Wd.heap.size 1 qb
      go_simp
      refine hKc.out _ _ trivial (fun hHeld => ?_)
      clear hKc Kc
      try simp only [Act.put, List.setIfInBounds_toArray, List.set_cons_zero, List.set_cons_succ]
      refine wpAnyH_ready (rs := [2]) (by kernel_rfl) (by simp) ?_
      refine AllReadyH.cons rfl (fun Kc hKc => ?_) AllReadyH.nil
      go_simp
      go_at_call 62
      refine (ih wb).mono ?_
      rintro e wc ⟨rfl, hBc⟩
      have hBW := below_then hB2 hB2.size hBc
      go_wp2_with fail
      refine hKc.out _ _ trivial (fun hHeld => ?_)
      clear hKc Kc
      try simp only [Act.put, List.setIfInBounds_toArray, List.set_cons_zero, List.set_cons_succ]
      refine wpAnyH_take (i := 9) (v := ?vn11) rfl (by kernel_rfl) (by kernel_rfl) (by kernel_rfl) (fun _ _ _ h => h) (Or.inl ⟨by rfl, ?yn11⟩) hHeld ?_
      case yn11 => (intro w' hSw; (try dsimp only at hSw); go_simp; rw [if_neg (by omega)]); (try with_reducible rfl)
      try simp only [Act.put, List.setIfInBounds_toArray, List.set_cons_zero, List.set_cons_succ]
      refine wpAnyH_take (i := 10) (v := ?vn12) rfl (by kernel_rfl) (by kernel_rfl) (by kernel_rfl) (fun _ _ _ h => h) (Or.inl ⟨by rfl, ?yn12⟩) hHeld ?_
      case yn12 => (intro w' hSw; (try dsimp only at hSw); go_simp); (try with_reducible rfl)
      try simp only [Act.put, List.setIfInBounds_toArray, List.set_cons_zero, List.set_cons_succ]
      try simp only [Act.put, List.getElem_toArray, List.getElem_cons_succ, List.getElem_cons_zero, List.setIfInBounds_toArray, List.set_cons_zero, List.set_cons_succ]
      try simp only [Act.put, List.setIfInBounds_toArray, List.set_cons_zero, List.set_cons_succ]
      refine wpAnyH_done (by kernel_rfl) ?_ _
      go_wp2_with fail
      go_ret
      exact ⟨ret_str (by rw [show (⟨#[cc]⟩ : ByteArray) = ⟨([cc] : Bs).toArray⟩ from rfl, ba_app]), hBW⟩
end Go.Proofs.YtnlobmepajakcaaGreatDoor
