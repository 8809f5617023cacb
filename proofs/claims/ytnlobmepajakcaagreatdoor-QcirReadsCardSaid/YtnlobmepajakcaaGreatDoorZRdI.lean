/- What lines of qcir hands over; the condition: texts have at most 2^22 bytes. -/
import Derived.Test.YtnlobmepajakcaaGreatDoorZRf
import Derived.Test.YtnlobmepajakcaaGreatDoorZScanB
set_option linter.unusedVariables false
set_option linter.unusedSimpArgs false
namespace Go.Proofs.YtnlobmepajakcaaGreatDoor
open Go.RowKit Go.Shelf

theorem index_nl (c : UInt8) (r : Bs) : Lib.index (c :: r) [10] = if c = 10 then 0 else if Lib.index r [10] = -1 then -1 else Lib.index r [10] + 1 := by
  have e : Lib.index (c :: r) [10] = if ([10] : Bs).isPrefixOf (c :: r) = true then 0 else if (Lib.index r [10] == -1) = true then -1 else Lib.index r [10] + 1 := rfl
  rw [e]
  by_cases h : c = 10
  · subst h; simp [List.isPrefixOf]
  · have h2 : ([10] : Bs).isPrefixOf (c :: r) = false := by
      simp only [List.isPrefixOf, Bool.and_true, beq_eq_false_iff_ne]
      exact fun e => h e.symm
    rw [h2, if_neg h]
    simp only [Bool.false_eq_true, if_false, beq_iff_eq]
theorem cut_nl (c : UInt8) (r : Bs) : (Lib.cut (c :: r) [10]).1 = (if c = 10 then [] else c :: (Lib.cut r [10]).1) ∧ (Lib.cut (c :: r) [10]).2.1 = (if c = 10 then r else (Lib.cut r [10]).2.1) := by
  have hge := Lib.index_ge r [10]
  unfold Lib.cut
  rw [index_nl]
  by_cases h : c = 10
  · rw [if_pos h, if_pos h, if_pos h]
    simp
  · rw [if_neg h, if_neg h, if_neg h]
    by_cases h2 : Lib.index r [10] = -1
    · rw [if_pos h2, h2]
      simp
    · rw [if_neg h2]
      have h3 : 0 ≤ Lib.index r [10] := by omega
      rw [if_pos (by omega), if_pos h3]
      obtain ⟨i, hi⟩ : ∃ i : Nat, Lib.index r [10] = i := ⟨_, (Int.toNat_of_nonneg h3).symm⟩
      rw [hi]
      have e : ((i : Int) + 1).toNat = i + 1 := by omega
      rw [e]
      simp
theorem cut_split : ∀ s : Bs, s ≠ [] → splitNL s = (Lib.cut s [10]).1 :: splitNL (Lib.cut s [10]).2.1
  | [], h => absurd rfl h
  | c :: r, _ => by
    have e : splitNL (c :: r) = if c = 10 then [] :: splitNL r else consHead c (splitNL r) := rfl
    rw [(cut_nl c r).1, (cut_nl c r).2, e]
    by_cases h : c = 10
    · rw [if_pos h, if_pos h, if_pos h]
    · rw [if_neg h, if_neg h, if_neg h]
      cases hr : r with
      | nil => rfl
      | cons d t =>
        rw [← hr, cut_split r (by rw [hr]; simp)]
        rfl
theorem cut_len : ∀ s : Bs, s ≠ [] → (Lib.cut s [10]).2.1.length < s.length ∧ (Lib.cut s [10]).1.length ≤ s.length
  | [], h => absurd rfl h
  | c :: r, _ => by
    rw [(cut_nl c r).1, (cut_nl c r).2]
    by_cases h : c = 10
    · rw [if_pos h, if_pos h]; simp
    · rw [if_neg h, if_neg h]
      cases hr : r with
      | nil => exact ⟨by simp [Lib.cut, Lib.index], by simp [Lib.cut, Lib.index]⟩
      | cons d t =>
        have := cut_len r (by rw [hr]; simp)
        rw [← hr]
        simp only [List.length_cons]
        omega
theorem trim_nil (l : Bs) : (Lib.trimB l 32).isEmpty = l.all fun c => c == 32 := by
  unfold Lib.trimB Lib.trimLeftB Lib.trimRightB
  have hd : ∀ l : Bs, (l.dropWhile (· == 32)) = [] ↔ l.all (fun c => c == 32) = true := by
    intro l
    induction l with
    | nil => simp
    | cons c r ih =>
      rw [List.dropWhile_cons, List.all_cons]
      by_cases h : (c == 32) = true
      · rw [if_pos h, ih, h]; simp
      · rw [if_neg h]
        simp only [Bool.not_eq_true] at h
        rw [h]; simp
  rw [Bool.eq_iff_iff, List.isEmpty_iff, hd]
  rw [List.all_reverse]
  have h2 : ∀ l : Bs, (l.dropWhile (· == 32)).all (fun c => c == 32) = l.all (fun c => c == 32) := by
    intro l
    induction l with
    | nil => rfl
    | cons c r ih =>
      rw [List.dropWhile_cons, List.all_cons]
      by_cases h : (c == 32) = true
      · rw [if_pos h, ih, h]; simp
      · rw [if_neg h, List.all_cons]
  rw [h2, List.all_reverse]
/-- The lines that are not blank, with their numbers. -/
def numbered : Nat → List Bs → List (Nat × Bs)
  | _, [] => []
  | no, t :: ts => if blankB t = true then numbered (no + 1) ts else (no, t) :: numbered (no + 1) ts
def encN (x : Nat × Bs) : Array Value := #[.int .i64 (x.1 : Int), .string ⟨x.2.toArray⟩]
set_option maxRecDepth 100000 in
set_option maxHeartbeats 2000000 in
theorem lines1_in (l Bsq : Nat) (Kp : World → World → Prop) (hKp : ∀ A B, Kp A B → B.heap[Bsq]? = A.heap[Bsq]? ∧ B.heap[1]? = A.heap[1]?) (s : Bs) (hs : s.length ≤ 4194304) (m : Int) (hne : Bsq ≠ 1)
    (J Jx : List (Nat × Bs) → World → Prop) (hab : AbQ (fun r => some Bsq = some r) J)
    (hY : ∀ pre x rest W1, numbered 1 (splitNL s) = pre ++ x :: rest → J pre W1 → YieldAt Fence.wide 0 Tryz.prog l (encN x) W1 fun e W' =>
      (e = .returned (.bool true) ∧ J (pre ++ [x]) W' ∧ Kp W1 W') ∨ (e = .returned (.bool false) ∧ Jx (pre ++ [x]) W'))
    (W : World) (hB : W.heap[Bsq]? = some (.cells #[sv s] 9 (0, 0))) (hm : W.cell? ⟨1, 0, none⟩ = some (.int .i64 m)) (h0 : J [] W) :
    CallsIn Fence.wide 0 Tryz.prog 77 #[.func (.yield l) #[] #[], .pointer (some ⟨Bsq, 0, none⟩)] W fun e W' => (∃ v, e = .returned v) ∧ (J (numbered 1 (splitNL s)) W' ∨ (∃ pre, pre <+: numbered 1 (splitNL s) ∧ Jx pre W')) := by
  have hro : Fence.wide.round = none := rfl
  refine callsIn_of_wp Tryz.func77 rfl trivial ?_ hro
  simp only [Tryz.ntmps77, List.size_toArray, List.length_cons, List.length_nil, Nat.reduceAdd, Nat.reduceSub, Array.replicate_succ, Array.replicate_zero, List.push_toArray, List.append_toArray, List.nil_append, List.cons_append]
  gi_wp2
  gi_loopw [3] (fun i wr => ∃ (no : Nat) (rest : Bs) (pre : List (Nat × Bs)), i = .int .i64 (no : Int) ∧ no + rest.length ≤ s.length + 1 ∧ Hid (numbered 1 (splitNL s) = pre ++ numbered no (splitNL rest)) ∧ J pre wr ∧
      wr.heap[Bsq]? = some (.cells #[sv rest] 9 (0, 0)) ∧ wr.cell? ⟨1, 0, none⟩ = some (.int .i64 m))
    (fun i _ => (((s.length : Int) + 2) - intOf i).toNat)
  case atStart => exact ⟨1, s, [], rfl, by omega, hid rfl, h0, hB, hm⟩
  case round =>
    obtain ⟨no, rest, pre, rfl, hlen, hnum, hJ, hBr, hmr⟩ := hrel
    have c0 := cell_row hBr (j := 0) (v := sv rest) rfl
    unfold sv at c0
    by_cases hr : rest = []
    · subst hr
      have hE : numbered 1 (splitNL s) = pre := by rw [hnum.out]; simp [splitNL, numbered]
      have HE := hid hE
      clear hE
      gi_wp2
      go_end0
      exact ⟨⟨_, rfl⟩, .inl (by rw [HE.out]; exact hJ)⟩
    · have hsp := cut_split rest hr
      have hcl := cut_len rest hr
      have f0 := fun n => frozen_of_row (wr.drewN n) Bsq 0 _ _ hBr
      have c0n : ∀ n, (wr.drewN n).cell? ⟨Bsq, 0, none⟩ = some (.string ⟨rest.toArray⟩) := fun n => c0
      have CC := Tryz.strings_Cut ⟨rest.toArray⟩ ⟨#[10]⟩ m wr (by show rest.length < _; omega) hmr
      rw [show (⟨rest.toArray⟩ : ByteArray).data.toList = rest from rfl, show (⟨#[10]⟩ : ByteArray).data.toList = [10] from rfl] at CC
      generalize Lib.cut rest [10] = ct at *
      obtain ⟨ln, rs, fd⟩ := ct
      simp only [] at hsp hcl CC
      rw [hsp] at hnum
      have hB2 : ∀ n, ((wr.drewN n).setCell ⟨Bsq, 0, none⟩ (sv rs)).heap[Bsq]? = some (.cells #[sv rs] 9 (0, 0)) := fun n => row_set (w := wr.drewN n) hBr (sv rs)
      have hJ2 : ∀ n, J pre ((wr.drewN n).setCell ⟨Bsq, 0, none⟩ (sv rs)) := fun n => hab _ _ _ (some Bsq) hJ (World.grownBy.trans (b := wr.drewN n) ⟨rfl, rfl, rfl, Nat.le_refl _, fun _ _ _ => rfl⟩ (grown_setCell (wr.drewN n) ⟨Bsq, 0, none⟩ (sv rs))) (fun r e => e)
      have hm2 : ∀ n, ((wr.drewN n).setCell ⟨Bsq, 0, none⟩ (sv rs)).cell? ⟨1, 0, none⟩ = some (.int .i64 m) := fun n => (grown_setCell (wr.drewN n) ⟨Bsq, 0, none⟩ (sv rs)).cell (show (wr.drewN n).cell? ⟨1, 0, none⟩ = _ from hmr) (fun e => by injection e with e; exact hne e.symm)
      have hnr : (rest.toArray : Array UInt8) ≠ #[] := by intro e; apply hr; simpa using e
      have hnb : (rest == []) = false := beq_eq_false_iff_ne.2 hr
      have hCP := fun w => prefixes ln 35 w
      have hCT := fun w => Tryz.strings_Trim_one ⟨ln.toArray⟩ 32 (by decide) w (by show ln.length ≤ _; omega)
      rw [show (⟨ln.toArray⟩ : ByteArray).data.toList = ln from rfl] at hCT
      have hTN := trim_nil ln
      unfold sv at hB2 hJ2 hm2
      have hnb2 : (rest != []) = true := by rw [bne_iff_ne]; exact hr
      clear hr
      by_cases hh : ln.head? = some 35
      · rw [decide_eq_true hh] at hCP
        have hbk : blankB ln = true := by unfold blankB; simp [hh]
        have HN := hid (show numbered 1 (splitNL s) = pre ++ numbered (no + 1) (splitNL rs) by rw [hnum.out, show numbered no (ln :: splitNL rs) = if blankB ln = true then numbered (no + 1) (splitNL rs) else (no, ln) :: numbered (no + 1) (splitNL rs) from rfl, if_pos hbk])
        clear hh hbk
        gi_wp2_with (first | (refine ⟨trivial, rfl, (callsIn_wide.2 CC).mono ?_⟩; rintro e w1 ⟨rfl, nd, rfl⟩) | (refine ⟨trivial, rfl, (callsIn_wide.2 (hCP _)).mono ?_⟩; rintro e w' ⟨rfl, hw⟩; subst hw) | fail)
        refine ⟨trivial, ?_⟩
        gi_wp2_with fail
        exact ⟨⟨no + 1, rs, pre, by go_num, by omega, HN, hJ2 nd, hB2 nd, hm2 nd⟩, by simp only [intOf]; omega⟩
      · rw [decide_eq_false hh] at hCP
        cases hal : ln.all (fun c => c == 32) with
        | true =>
          rw [hal] at hTN
          have hbk : blankB ln = true := by unfold blankB; simp [hal]
          have HN := hid (show numbered 1 (splitNL s) = pre ++ numbered (no + 1) (splitNL rs) by rw [hnum.out, show numbered no (ln :: splitNL rs) = if blankB ln = true then numbered (no + 1) (splitNL rs) else (no, ln) :: numbered (no + 1) (splitNL rs) from rfl, if_pos hbk])
          have hT0 : Lib.trimB ln 32 = [] := List.isEmpty_iff.1 hTN
          rw [hT0] at hCT
          clear hh hbk hal hTN hT0
          gi_wp2_with (first | (refine ⟨trivial, rfl, (callsIn_wide.2 CC).mono ?_⟩; rintro e w1 ⟨rfl, nd, rfl⟩) | (refine ⟨trivial, rfl, (callsIn_wide.2 (hCP _)).mono ?_⟩; rintro e w' ⟨rfl, hw⟩; subst hw) | (refine ⟨trivial, rfl, (callsIn_wide.2 (hCT _)).mono ?_⟩; rintro e w5 ⟨rfl, hw5⟩) | fail)
          rcases hw5 with rfl | rfl
          · exact ⟨⟨no + 1, rs, pre, by go_num, by omega, HN, hJ2 nd, hB2 nd, hm2 nd⟩, by simp only [intOf]; omega⟩
          · exact ⟨⟨no + 1, rs, pre, by go_num, by omega, HN, hab _ _ _ none (hJ2 nd) ⟨rfl, rfl, rfl, Nat.le_refl _, fun _ _ _ => rfl⟩ (fun r e => by cases e), hB2 nd, hm2 nd⟩, by simp only [intOf]; omega⟩
        | false =>
          rw [hal] at hTN
          have hbk : blankB ln = false := by
            unfold blankB
            rw [hal, Bool.or_false, beq_eq_false_iff_ne]
            exact hh
          have HN := hid (show numbered 1 (splitNL s) = pre ++ (no, ln) :: numbered (no + 1) (splitNL rs) by rw [hnum.out, show numbered no (ln :: splitNL rs) = if blankB ln = true then numbered (no + 1) (splitNL rs) else (no, ln) :: numbered (no + 1) (splitNL rs) from rfl, if_neg (by rw [hbk]; simp)])
          have hT0 : (Lib.trimB ln 32 == []) = false := by
            cases h : Lib.trimB ln 32 with
            | nil => rw [h] at hTN; cases hTN
            | cons a b => rfl
          clear hh hbk hal hTN
          gi_wp2_with (first | (refine ⟨trivial, rfl, (callsIn_wide.2 CC).mono ?_⟩; rintro e w1 ⟨rfl, nd, rfl⟩) | (refine ⟨trivial, rfl, (callsIn_wide.2 (hCP _)).mono ?_⟩; rintro e w' ⟨rfl, hw⟩; subst hw) | (refine ⟨trivial, rfl, (callsIn_wide.2 (hCT _)).mono ?_⟩; rintro e w5 ⟨rfl, hw5⟩; have hB5 : w5.heap[Bsq]? = some (.cells #[sv rs] 9 (0, 0)) := (by rcases hw5 with rfl | rfl <;> exact hB2 nd); have hm5 : w5.cell? ⟨1, 0, none⟩ = some (.int .i64 m) := (by rcases hw5 with rfl | rfl <;> exact hm2 nd); have hJ5 : J pre w5 := (by rcases hw5 with rfl | rfl; exact hJ2 nd; exact hab _ _ _ none (hJ2 nd) ⟨rfl, rfl, rfl, Nat.le_refl _, fun _ _ _ => rfl⟩ (fun r e => by cases e)); obtain ⟨fn, tmps, assign, body, hy2, hR⟩ := hY _ _ _ w5 HN.out hJ5; dsimp only [encN] at hy2) | fail)
          refine ⟨rfl, hR.mono ?_⟩
          rintro e W3 (⟨rfl, hJ3, hk3⟩ | ⟨rfl, hJx3⟩)
          · obtain ⟨k1, k2⟩ := hKp _ _ hk3
            have hB6 := k1.trans hB5
            have hm6 : W3.cell? ⟨1, 0, none⟩ = some (.int .i64 m) := (World.cell?_of_block k2).trans hm5
            have HN2 := hid (show numbered 1 (splitNL s) = (pre ++ [(no, ln)]) ++ numbered (no + 1) (splitNL rs) by rw [HN.out]; simp)
            gi_wp2_with fail
            exact ⟨⟨no + 1, rs, pre ++ [(no, ln)], by go_num, by omega, HN2, hJ3, hB6, hm6⟩, by simp only [intOf]; omega⟩
          · gi_wp2_with fail
            refine bodyPost_ret (results_none rfl _ _ _) rfl ?_
            exact ⟨⟨_, rfl⟩, .inr ⟨_, ⟨numbered (no + 1) (splitNL rs), by rw [HN.out]; simp⟩, hJx3⟩⟩
theorem lines_seq {Bsq : Nat} {Kp : World → World → Prop} (hKp : ∀ A B, Kp A B → B.heap[Bsq]? = A.heap[Bsq]? ∧ B.heap[1]? = A.heap[1]?) {s : Bs} (hs : s.length ≤ 4194304) {m : Int} (hne : Bsq ≠ 1) {w : World}
    (hB : w.heap[Bsq]? = some (.cells #[sv s] 9 (0, 0))) (hm : w.cell? ⟨1, 0, none⟩ = some (.int .i64 m)) : SeqQ Tryz.prog 77 #[.pointer (some ⟨Bsq, 0, none⟩)] encN Kp (some Bsq) (numbered 1 (splitNL s)) w := fun l J Jx W hW hab hY h0 =>
  lines1_in l Bsq Kp hKp s hs m hne J Jx hab hY W (row_below hB hW) (keeps_below hW _ _ hm) h0
end Go.Proofs.YtnlobmepajakcaaGreatDoor
