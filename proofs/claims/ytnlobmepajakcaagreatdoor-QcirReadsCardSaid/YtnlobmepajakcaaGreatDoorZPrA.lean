/- What list of qcir's printer does, and strings.Builder as a buffer of bytes; the conditions: literals of at most 65536, at most 1,000,000 of them. -/
import Derived.Test.YtnlobmepajakcaaGreatDoorZScanC
import Derived.Test.YtnlobmepajakcaaGreatDoorZQv
import Derived.Lib.AppendIntMem
set_option linter.unusedVariables false
set_option linter.unusedSimpArgs false
namespace Go.Proofs.YtnlobmepajakcaaGreatDoor
open Go.RowKit Go.Shelf

theorem digF_dec : ∀ (f n : Nat), n < f → digF f n = Lib.decDigits n
  | 0, n, h => by omega
  | f + 1, n, h => by
    rw [digF, Lib.decDigits]
    by_cases hn : n < 10
    · rw [if_pos hn, dif_pos hn]
    · rw [if_neg hn, dif_neg hn, digF_dec f (n / 10) (by omega)]
theorem intP_itoa (x : Int) : Lib.itoa x = intP x := by
  unfold Lib.itoa intP digP
  have e : (-x).toNat = x.natAbs ∨ ¬ x < 0 := by omega
  by_cases h : x < 0
  · rw [if_pos h, if_pos h, digF_dec _ _ (Nat.lt_succ_self _), show (-x).toNat = x.natAbs by omega]
  · rw [if_neg h, if_neg h, digF_dec _ _ (Nat.lt_succ_self _)]
theorem join_lits : ∀ l : List Int, Lib.join (l.map intP) [44, 32] = litsP l
  | [] => rfl
  | [x] => Lib.join_one _ _
  | x :: y :: l => by
    have ih := join_lits (y :: l)
    rw [List.map_cons, Lib.join_cons] at ih
    have e : litsP (x :: y :: l) = intP x ++ [44, 32] ++ litsP (y :: l) := rfl
    rw [e, List.map_cons, List.map_cons, Lib.join_cons]
    unfold Lib.joinTail at ih ⊢
    rw [List.map_cons, List.flatten_cons, ← ih]
    simp
theorem ba_app (a b : Bs) : (⟨a.toArray⟩ : ByteArray) ++ ⟨b.toArray⟩ = ⟨(a ++ b).toArray⟩ := by
  apply ByteArray.ext
  simp
theorem info9 : (Tryz.prog.info? 9).map (fun i => (i.zero, i.size, i.bytes)) = some (some (.string ⟨#[]⟩), 1, 16) := by kernel_rfl
def strs (l : List Int) : List Value := l.map fun x => sv (intP x)
theorem strs_snoc {xs : List Int} {j : Nat} {x : Int} (h : xs[j]? = some x) : strs (xs.take j) ++ (#[sv (intP x)] : Array Value).toList = strs (xs.take (j + 1)) := by
  unfold strs
  rw [take_snoc h]
  simp
theorem strs_get {l : List Int} {j : Nat} {x : Int} (h : l[j]? = some x) : (strs l)[j]? = some (sv (intP x)) := by
  unfold strs
  rw [List.getElem?_map, h]; rfl
theorem ret_str {a b : ByteArray} (h : a = b) : Ending.returned (.string a) = .returned (.string b) := by rw [h]
theorem litsP_le (l : List Int) (h : ∀ x ∈ l, -65536 ≤ x ∧ x ≤ 65536) (hn : l.length ≤ 1000000) : (litsP l).length ≤ 8000000 := by
  have := litsP_len l h
  omega
set_option maxRecDepth 100000 in
set_option maxHeartbeats 2000000 in
theorem listS_any (v : Value) (xs : List Int) (w : World) (h : IntsAt w v xs) (hx : ∀ x ∈ xs, -65536 ≤ x ∧ x ≤ 65536) (hn : xs.length ≤ 1000000) (hE : Env w) :
    Calls Tryz.prog 56 #[v] w fun e w' => e = .returned (.string ⟨(listS xs).toArray⟩) ∧ Below w.heap.size w w' := by
  obtain ⟨A, c, rfl, hlc, hcm⟩ := h.form
  have hpl := litsP_le xs hx hn
  have CI : ∀ (x : Int) (W : World), -65536 ≤ x ∧ x ≤ 65536 → Below w.heap.size w W → Calls Tryz.prog 57 #[.int .i64 x] W fun e w' => e = .returned (sv (intP x)) ∧ Below W.heap.size W w' := fun x W hx hB => by
    refine (Tryz.strconv_Itoa x (by omega) (by omega) W (hE.below hB hE.size).tab).mono ?_
    rintro e w' ⟨rfl, k, os, rfl⟩
    exact ⟨by rw [intP_itoa]; rfl, Lib.below_grow _ _ (Nat.le_refl _) _ _⟩
  go_enter Tryz.func56, Tryz.ntmps56
  go_wp2_with fail
  go_loopg [3, 8] xs.length (fun gg s3 s8 wr => ∃ (j : Nat) (A1 : Option Addr) (c1 : Nat), j ≤ xs.length ∧ xs.length - j ≤ gg ∧ s3 = .slice A1 j c1 ∧ s8 = .int .i64 (j : Int) ∧ Below w.heap.size w wr ∧ wr.ownsRow w.heap.size 9 1 (.slice A1 j c1) j (strs (xs.take j)))
  case atStart => exact ⟨0, none, 0, Nat.zero_le _, by omega, rfl, rfl, Below.refl _ _, by simpa [strs] using World.ownsRow_nil w w.heap.size 9 1⟩
  case round =>
    obtain ⟨j, A1, c1, hj, hg, rfl, rfl, hB, hO⟩ := hrel
    by_cases hlt : j < xs.length
    · have hltz : (j : Int) < (xs.length : Int) := by omega
      obtain ⟨x, hxj, hxm, -⟩ := nth hlt
      obtain ⟨bx, ox, rfl, hcx, hx64⟩ := (h.keep (keeps_below hB)).at_ j x hxj
      have hxr := hx x hxm
      have C1 := CI x wr hxr hB
      unfold sv at C1
      have hST := hid (strs_snoc hxj)
      have hbs := hB.size
      have hXJ := hid hxj
      have hXR := hid hxr
      clear hxj hxr hxm hx64
      go_wp2_with (first | (go_at_call 57; refine C1.mono ?_; rintro e w1 ⟨rfl, hB1⟩; have hO1 := hO.kept (grown_of_below hB1 none) (by cases (Value.slice A1 j c1).ownBlock <;> simp); have hbs1 := Nat.le_trans hbs hB1.size) | (at_builtin; refine append_one w.heap.size rfl _ _ 36 9 (.string ⟨#[]⟩) 1 16 rfl Tryz.underlying36 info9 rfl (by decide) (by decide) (.slice A1 j c1) j (strs (xs.take j)) #[sv (intP x)] rfl rfl rfl (by intro u hu; simp at hu; subst hu; rfl) hO1 hbs1 (by omega) ?_; intro g2 cap2 w3 hO3 hG3 hg3 hbg hlt3) | fail)
      go_roundg (xs.length - (j + 1))
      case measure => omega
      case rel =>
        rw [hST.out] at hO3
        exact ⟨j + 1, some ⟨g2, 0, none⟩, cap2, by omega, by omega, rfl, by go_num, (below_then hB hbs hB1).grown hG3 hbs1 (fun r e => (hO1.lt r e).1), hO3⟩
    · have hltz : ¬ (j : Int) < (xs.length : Int) := by omega
      have hje : j = xs.length := by omega
      subst hje
      rw [List.take_length] at hO
      by_cases h0 : xs.length = 0
      · have hxs : xs = [] := List.eq_nil_of_length_eq_zero h0
        subst hxs
        have CJ := Tryz.strings_Join_none A1 c1 ⟨#[44, 32]⟩ wr
        clear h0
        go_wp2_with (first | (go_at_call 25; refine CJ.mono ?_; rintro e w' ⟨rfl, rfl⟩) | fail)
        go_ret
        exact ⟨rfl, hB⟩
      · obtain ⟨g, cap, hAc, hg1, hg2, hg3⟩ := own_form hO (by omega)
        cases hAc
        have hJl : (xs.map fun x => (⟨(intP x).toArray⟩ : ByteArray)).length = xs.length := by simp
        have hJe : Lib.join ((xs.map fun x => (⟨(intP x).toArray⟩ : ByteArray)).map (·.data.toList)) (⟨#[44, 32]⟩ : ByteArray).data.toList = litsP xs := by
          rw [List.map_map, ← join_lits]
          congr 1
        have CJ := Tryz.strings_Join g 0 c1 (xs.map fun x => (⟨(intP x).toArray⟩ : ByteArray)) ⟨#[44, 32]⟩ wr (fun j x hx => by
          rw [List.getElem?_map] at hx
          obtain ⟨y, hy, rfl⟩ := Option.map_eq_some_iff.1 hx
          rw [Nat.zero_add]
          exact (hO.cellAt j (by have := (List.getElem?_eq_some_iff.1 hy).1; omega)).trans (strs_get hy)) (by omega) (by rw [hJl]; omega) (by rw [hJl]; omega) (by rw [hJe]; omega)
        rw [hJe, hJl] at CJ
        clear h0 hO hJl hJe
        go_wp2_with (first | (go_at_call 25; refine CJ.mono ?_; rintro e w' ⟨rfl, hB2⟩) | fail)
        go_ret
        refine ⟨ret_str ?_, below_then hB hB.size hB2⟩
        unfold listS
        rw [show (⟨#[40]⟩ : ByteArray) = ⟨([40] : Bs).toArray⟩ from rfl, show (⟨#[41, 10]⟩ : ByteArray) = ⟨([41, 10] : Bs).toArray⟩ from rfl, ba_app, ba_app]

def Bld (B b : Nat) (l : Bs) (w : World) : Prop := Lib.IsBuilderF 27 5 B b (Lib.byteCells l) w
theorem ownF_below {w w' : World} {base : Nat} {e : TypeId} {size : Nat} {v : Value} {n : Nat} {xs : List Value} (h : w.ownsRowF base e size v n xs) (hB : Below w.heap.size w w') : w'.ownsRowF base e size v n xs := by
  rcases h with ⟨k1, h | ⟨g, cap, cur, fz, k2, k3, k4, k5⟩⟩
  · exact ⟨k1, .inl h⟩
  · exact ⟨k1, .inr ⟨g, cap, cur, fz, k2, k3, row_below k4 hB, k5⟩⟩
theorem BldF.below {B b : Nat} {p : Value} {bs : List Value} {w w' : World} (h : Lib.BuilderAtF 27 5 B b p bs w) (hB : Below w.heap.size w w') : Lib.BuilderAtF 27 5 B b p bs w' := by
  obtain ⟨h1, v, h2, h3, h4⟩ := h
  exact ⟨h1, v, row_below h2 hB, ownF_below h3 hB, h4⟩
theorem Bld.below {B b : Nat} {l : Bs} {w w' : World} (h : Bld B b l w) (hB : Below w.heap.size w w') : Bld B b l w' :=
  h.elim (fun h => .inl (BldF.below h hB)) (fun h => .inr (BldF.below h hB))
theorem bld_fresh (w : World) : Bld w.heap.size w.heap.size [] (w.alloc (.cells #[.pointer none, .slice none 0 0] 27)) := Lib.IsBuilderF.of (Lib.fresh_isBuilder 27 5 w)
theorem write_any (B b : Nat) (l s : Bs) (w : World) (h : Bld B b l w) (hlen : l.length + s.length ≤ 140737488355328) (hBw : B ≤ w.heap.size) :
    Calls Tryz.prog 14 #[.pointer (some ⟨b, 0, none⟩), .string ⟨s.toArray⟩] w fun e w' => e = .returned (.tuple #[.int .i64 (s.length : Int), .nilIface]) ∧ Bld B b (l ++ s) w' ∧ Below B w w' ∧ Lib.OthersKept 5 (some b) w w' := by
  refine (Any.Builder_WriteString_k (ρ := Tryz.lays156_ren) { Tryz.lays156 with } Tryz.Builder_Extra_156 B b (Lib.byteCells l) ⟨s.toArray⟩ w h (by rw [Lib.byteCells_length]; exact hlen) hBw).mono ?_
  rintro e w' ⟨rfl, h1, h2, h3⟩
  refine ⟨rfl, .inr ?_, h2, h3⟩
  rw [Lib.byteCells_append]
  exact h1
theorem len_any (B b : Nat) (l : Bs) (w : World) (h : Bld B b l w) : Calls Tryz.prog 39 #[.pointer (some ⟨b, 0, none⟩)] w fun e w' => e = .returned (.int .i64 (l.length : Int)) ∧ w' = w := by
  refine (Any.Builder_Len_f Tryz.lays170 B b (Lib.byteCells l) w h).mono ?_
  rintro e w' ⟨rfl, rfl⟩
  exact ⟨by rw [Lib.byteCells_length], rfl⟩
theorem string_any (B b : Nat) (l : Bs) (w : World) (h : Bld B b l w) (hBw : B ≤ w.heap.size) :
    Calls Tryz.prog 18 #[.pointer (some ⟨b, 0, none⟩)] w fun e w' => e = .returned (.string ⟨l.toArray⟩) ∧ Bld B b l w' ∧ Below B w w' ∧ Lib.OthersKept 5 (some b) w w' :=
  Any.Builder_String_any_k Tryz.lays169 Tryz.Builder_Extra_169 B b l w h hBw
theorem kept_row {w w' : World} {b k : Nat} {cs : Array Value} {t : TypeId} {fz : Nat × Nat} (h : Lib.OthersKept 5 (some b) w w') (hr : w.heap[k]? = some (.cells cs t fz)) (hb : k ≠ b) (ht : t ≠ 5) : w'.heap[k]? = some (.cells cs t fz) :=
  h k _ hr (by intro e; injection e with e; exact hb e) (by intro c f e; injection e with _ e _; exact ht e)
end Go.Proofs.YtnlobmepajakcaaGreatDoor
