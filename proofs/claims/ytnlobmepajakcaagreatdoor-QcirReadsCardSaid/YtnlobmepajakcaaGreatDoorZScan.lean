/- What the scanner of qcir does: take, word, sign, need; the condition: texts have at most 2^47 bytes. -/
import Derived.Test.YtnlobmepajakcaaGreatDoorZPlain
import Derived.Test.YtnlobmepajakcaaGreatDoorZShelf
import Derived.Test.YtnlobmepajakcaaGreatDoorZQs
set_option linter.unusedVariables false
set_option linter.unusedSimpArgs false
namespace Go.Proofs.YtnlobmepajakcaaGreatDoor
open Go.RowKit Go.Shelf

/-- A string of bytes. -/
def sv (l : Bs) : Value := .string ⟨l.toArray⟩
/-- A scanner in memory. -/
def ScanAt (w : World) (b : Nat) (s : Scan) : Prop := w.heap[b]? = some (.cells #[sv s.rest, .bool s.ok] 134 (0, 0))
theorem ret_bool2 {a b : Bool} (h : a = b) : Ending.returned (.bool a) = .returned (.bool b) := by rw [h]
set_option maxRecDepth 100000 in
theorem dig142 (c : UInt8) (w : World) : Calls Tryz.prog 142 #[.int .u8 (c.toNat : Int)] w fun e w' => e = .returned (.bool (isDig c)) ∧ w' = w := by
  by_cases h1 : (48 : Int) ≤ (c.toNat : Int)
  · by_cases h2 : (c.toNat : Int) ≤ 57
    · go_enter Tryz.func142, Tryz.ntmps142
      go_wp2
      go_ret
      exact ⟨ret_bool2 (isDig_iff.2 ⟨by omega, by omega⟩).symm, rfl⟩
    · have h3 : decide ((c.toNat : Int) ≤ 57) = false := decide_eq_false h2
      have hr : isDig c = false := by unfold isDig; simp; omega
      have HR := hid hr
      clear h2 hr
      go_enter Tryz.func142, Tryz.ntmps142
      go_wp2
      go_ret
      exact ⟨ret_bool2 HR.out.symm, rfl⟩
  · have h3 : decide ((48 : Int) ≤ (c.toNat : Int)) = false := decide_eq_false h1
    have hr : isDig c = false := by unfold isDig; simp; omega
    have HR := hid hr
    clear h1 hr
    go_enter Tryz.func142, Tryz.ntmps142
    go_wp2
    go_ret
    exact ⟨ret_bool2 HR.out.symm, rfl⟩
theorem byte_at {l : Bs} {j : Nat} {c : UInt8} (hc : l[j]? = some c) (h : j < (⟨l.toArray⟩ : ByteArray).size) : (⟨l.toArray⟩ : ByteArray)[j]'h = c := by
  have h' : j < l.length := (List.getElem?_eq_some_iff.1 hc).1
  have : (⟨l.toArray⟩ : ByteArray)[j]'h = l[j]'h' := rfl
  rw [this]
  exact (List.getElem?_eq_some_iff.1 hc).2
theorem tw_get (p : UInt8 → Bool) : ∀ (l : Bs) (j : Nat) (c : UInt8), l[j]? = some c → j < (l.takeWhile p).length → p c = true
  | [], j, c, h, _ => by simp at h
  | x :: l, 0, c, h, hj => by
    simp only [List.getElem?_cons_zero, Option.some.injEq] at h
    subst h
    rw [List.takeWhile_cons] at hj
    split at hj
    · assumption
    · simp at hj
  | x :: l, j + 1, c, h, hj => by
    simp only [List.getElem?_cons_succ] at h
    rw [List.takeWhile_cons] at hj
    split at hj
    · exact tw_get p l j c h (by simpa using hj)
    · simp at hj
theorem tw_stop (p : UInt8 → Bool) : ∀ (l : Bs) (c : UInt8), l[(l.takeWhile p).length]? = some c → p c = false
  | [], c, h => by simp at h
  | x :: l, c, h => by
    rw [List.takeWhile_cons] at h
    split at h
    · exact tw_stop p l c (by simpa using h)
    · simp only [List.length_nil, List.getElem?_cons_zero, Option.some.injEq] at h
      subst h
      simpa using ‹¬ p x = true›
theorem tw_le (p : UInt8 → Bool) (l : Bs) : (l.takeWhile p).length ≤ l.length := by
  have := List.takeWhile_sublist p (l := l)
  exact this.length_le
theorem tw_take (p : UInt8 → Bool) : ∀ l : Bs, l.take (l.takeWhile p).length = l.takeWhile p
  | [] => rfl
  | x :: l => by
    rw [List.takeWhile_cons]
    split
    · rw [List.length_cons, List.take_succ_cons, tw_take p l]
    · rfl
theorem tw_drop (p : UInt8 → Bool) : ∀ l : Bs, l.drop (l.takeWhile p).length = l.dropWhile p
  | [] => rfl
  | x :: l => by
    rw [List.takeWhile_cons, List.dropWhile_cons]
    split
    · rw [List.length_cons, List.drop_succ_cons, tw_drop p l]
    · rfl
theorem ex_take (l : Bs) (k : Nat) : (⟨l.toArray⟩ : ByteArray).extract 0 k = ⟨(l.take k).toArray⟩ := by
  apply ByteArray.ext
  rw [ByteArray.data_extract]
  simp
theorem ex_drop (l : Bs) (k n : Nat) (hn : n = l.length) : (⟨l.toArray⟩ : ByteArray).extract k n = ⟨(l.drop k).toArray⟩ := by
  apply ByteArray.ext
  rw [ByteArray.data_extract]
  subst hn
  simp
  exact List.take_of_length_le (by simp)
theorem isLow_iff {c : UInt8} : isLow c = true ↔ 97 ≤ c.toNat ∧ c.toNat ≤ 122 := by unfold isLow; simp
set_option maxRecDepth 100000 in
theorem low130 (c : UInt8) (w : World) : Calls Tryz.prog 130 #[.int .u8 (c.toNat : Int)] w fun e w' => e = .returned (.bool (isLow c)) ∧ w' = w := by
  by_cases h1 : (97 : Int) ≤ (c.toNat : Int)
  · by_cases h2 : (c.toNat : Int) ≤ 122
    · go_enter Tryz.func130, Tryz.ntmps130
      go_wp2
      go_ret
      exact ⟨ret_bool2 (isLow_iff.2 ⟨by omega, by omega⟩).symm, rfl⟩
    · have h3 : decide ((c.toNat : Int) ≤ 122) = false := decide_eq_false h2
      have hr : isLow c = false := by unfold isLow; simp; omega
      have HR := hid hr
      clear h2 hr
      go_enter Tryz.func130, Tryz.ntmps130
      go_wp2
      go_ret
      exact ⟨ret_bool2 HR.out.symm, rfl⟩
  · have h3 : decide ((97 : Int) ≤ (c.toNat : Int)) = false := decide_eq_false h1
    have hr : isLow c = false := by unfold isLow; simp; omega
    have HR := hid hr
    clear h1 hr
    go_enter Tryz.func130, Tryz.ntmps130
    go_wp2
    go_ret
    exact ⟨ret_bool2 HR.out.symm, rfl⟩
set_option maxRecDepth 100000 in
set_option maxHeartbeats 1000000 in
theorem take_any (k : Nat) (p : UInt8 → Bool) (CK : ∀ c w, Calls Tryz.prog k #[.int .u8 ((c : UInt8).toNat : Int)] w fun e w' => e = .returned (.bool (p c)) ∧ w' = w) (E142 : ∀ args w, (callFunc k args).run Tryz.prog w = .ok (.enter k args) w) (b : Nat) (s : Scan) (w : World) (h : ScanAt w b s) (hl : s.rest.length ≤ 140737488355328) :
    Calls Tryz.prog 129 #[.pointer (some ⟨b, 0, none⟩), .func (.func k) #[] #[]] w fun e w' => e = .returned (sv (takeP p s.rest).1) ∧ ScanAt w' b ⟨(takeP p s.rest).2, s.ok⟩ ∧ w.grownBy w' (some b) := by
  have c0 := cell_row h (j := 0) (v := sv s.rest) rfl
  unfold sv at c0
  have hle := tw_le p s.rest
  go_enter Tryz.func129, Tryz.ntmps129
  go_wp2_with fail
  go_loopg [5] (s.rest.takeWhile p).length (fun gg s5 wr => ∃ j : Nat, j ≤ (s.rest.takeWhile p).length ∧ (s.rest.takeWhile p).length - j ≤ gg ∧ s5 = .int .i64 j ∧ wr = w)
  case atStart => exact ⟨0, Nat.zero_le _, by omega, rfl, rfl⟩
  case round =>
    obtain ⟨j, hj, hg, rfl, rfl⟩ := hrel
    by_cases hlt : j < (s.rest.takeWhile p).length
    · have hjl : (j : Int) < (s.rest.length : Int) := by omega
      obtain ⟨c, hc, -, -⟩ := nth (show j < s.rest.length by omega)
      have hb := byte_at hc
      have hp := tw_get p s.rest j c hc hlt
      have CD := CK c wr
      rw [hp] at CD
      clear hc hp
      go_wp2_with (first | (refine CD.mono ?_; rintro e w' ⟨rfl, hw⟩; obtain rfl : wr = w' := hw.symm) | fail)
      go_roundg ((s.rest.takeWhile p).length - (j + 1))
      case measure => omega
      case rel => exact ⟨j + 1, by omega, by omega, by go_num, rfl⟩
    · have hje : j = (s.rest.takeWhile p).length := by omega
      have f0 := frozen_of_row _ b 0 _ _ h
      have x1 : (⟨s.rest.toArray⟩ : ByteArray).extract 0 j = ⟨(s.rest.takeWhile p).toArray⟩ := by rw [ex_take, hje, tw_take]
      have x2 : (⟨s.rest.toArray⟩ : ByteArray).extract j s.rest.length = ⟨(s.rest.dropWhile p).toArray⟩ := by rw [ex_drop _ _ _ rfl, hje, tw_drop]
      have HJ := hid hje
      by_cases hjl : j < s.rest.length
      · obtain ⟨c, hc, -, -⟩ := nth hjl
        have hjl2 : (j : Int) < (s.rest.length : Int) := by omega
        have hb := byte_at hc
        have hp := tw_stop p s.rest c (by rw [← hje]; exact hc)
        have CD := CK c wr
        rw [hp] at CD
        clear hc hp hje hlt
        go_wp2_with (first | (go_at_call 80; refine (Tryz.strings_TrimLeft_one _ 32 (by decide) _).mono ?_; rintro e w' ⟨rfl, hw⟩; obtain rfl : wr = w' := hw.symm) | (refine CD.mono ?_; rintro e w' ⟨rfl, hw⟩; obtain rfl : wr = w' := hw.symm) | fail)
        go_ret
        exact ⟨rfl, row_set h _, grown_setCell wr ⟨b, 0, none⟩ _⟩
      · have hjl2 : ¬ (j : Int) < (s.rest.length : Int) := by omega
        have hd : decide ((j : Int) < (s.rest.length : Int)) = false := decide_eq_false hjl2
        have HL := hid hjl
        clear hje hlt hjl hjl2
        go_wp2_with (first | (go_at_call 80; refine (Tryz.strings_TrimLeft_one _ 32 (by decide) _).mono ?_; rintro e w' ⟨rfl, hw⟩; obtain rfl : wr = w' := hw.symm) | fail)
        · go_ret
          exact ⟨rfl, row_set h _, grown_setCell wr ⟨b, 0, none⟩ _⟩
theorem take_dig (b : Nat) (s : Scan) (w : World) (h : ScanAt w b s) (hl : s.rest.length ≤ 140737488355328) :
    Calls Tryz.prog 129 #[.pointer (some ⟨b, 0, none⟩), .func (.func 142) #[] #[]] w fun e w' => e = .returned (sv (takeP isDig s.rest).1) ∧ ScanAt w' b ⟨(takeP isDig s.rest).2, s.ok⟩ ∧ w.grownBy w' (some b) :=
  take_any 142 isDig dig142 (enters_of Tryz.func142 (by kernel_rfl) rfl) b s w h hl
theorem take_low (b : Nat) (s : Scan) (w : World) (h : ScanAt w b s) (hl : s.rest.length ≤ 140737488355328) :
    Calls Tryz.prog 129 #[.pointer (some ⟨b, 0, none⟩), .func (.func 130) #[] #[]] w fun e w' => e = .returned (sv (takeP isLow s.rest).1) ∧ ScanAt w' b ⟨(takeP isLow s.rest).2, s.ok⟩ ∧ w.grownBy w' (some b) :=
  take_any 130 isLow low130 (enters_of Tryz.func130 (by kernel_rfl) rfl) b s w h hl
end Go.Proofs.YtnlobmepajakcaaGreatDoor
