/- The document's reader of a line, step by step, in plain words; no condition / What the document's printer does: number, list, words; the conditions: numbers of at most 1,000,000,000, literals of at most 65536, at most 1,000,000 of them / What the document's printer does: list, words; the conditions: literals of at most 65536, at most 1,000,000 of them / What blank, is and kind of the document's reader do; the condition: texts have at most 2^22 bytes. -/
import Derived.Test.YtnlobmepajakcaaGreatDoorZQs
import Derived.Test.YtnlobmepajakcaaGreatDoorZQb
import Derived.Test.YtnlobmepajakcaaGreatDoorZPrB
import Derived.Test.YtnlobmepajakcaaGreatDoorZRef
import Derived.Laws.IdiomStrings
set_option linter.unusedVariables false
set_option linter.unusedSimpArgs false
namespace Go.Proofs.YtnlobmepajakcaaGreatDoor
open Go.RowKit Go.Shelf

theorem drop_one {α : Type} {s : List α} {i : Nat} {c : α} (h : s[i]? = some c) : s.drop i = c :: s.drop (i + 1) := by
  have hi := (List.getElem?_eq_some_iff.1 h).1
  rw [List.drop_eq_getElem_cons hi, (List.getElem?_eq_some_iff.1 h).2]
/-- Behind the first i bytes of s, that are the tokens l. -/
def TokS (s : Bs) (i : Nat) (l : List Tok) : Prop := tokP s = (tokP (s.drop i)).map fun ts => l ++ ts
theorem TokS.zero (s : Bs) : TokS s 0 [] := by
  show tokP s = (tokP s).map fun ts => [] ++ ts
  cases tokP s <;> rfl
theorem TokS.end {s : Bs} {i : Nat} {l : List Tok} (h : TokS s i l) (hi : s.length ≤ i) : tokP s = some l := by
  rw [h, List.drop_eq_nil_of_le hi, tok_nil]; simp
theorem TokS.space {s : Bs} {i : Nat} {l : List Tok} (h : TokS s i l) (hc : s[i]? = some 32) : TokS s (i + 1) l := by
  unfold TokS at h ⊢
  rw [h, drop_one hc, tok_cons, if_pos rfl]
theorem tw_cons {p : UInt8 → Bool} {c : UInt8} (h : p c = true) (r : Bs) : (c :: r).takeWhile p = c :: r.takeWhile p := by rw [List.takeWhile_cons, if_pos h]
theorem dw_cons {p : UInt8 → Bool} {c : UInt8} (h : p c = true) (r : Bs) : (c :: r).dropWhile p = r.dropWhile p := by rw [List.dropWhile_cons, if_pos h]
theorem tw_dropN (p : UInt8 → Bool) : ∀ l : Bs, l.drop (l.takeWhile p).length = l.dropWhile p
  | [] => rfl
  | x :: l => by
    rw [List.takeWhile_cons, List.dropWhile_cons]
    split
    · rw [List.length_cons, List.drop_succ_cons, tw_dropN p l]
    · rfl
theorem low_ne {c : UInt8} (h : isLow c = true) : c ≠ 32 := by rintro rfl; revert h; decide
theorem map_snoc {o : Option (List Tok)} {l : List Tok} {x : Tok} : (o.map fun ts => x :: ts).map (fun ts => l ++ ts) = o.map fun ts => (l ++ [x]) ++ ts := by
  cases o <;> simp
theorem TokS.word {s : Bs} {i : Nat} {l : List Tok} {c : UInt8} (h : TokS s i l) (hc : s[i]? = some c) (hl : isLow c = true) :
    TokS s (i + ((s.drop i).takeWhile isLow).length) (l ++ [⟨(s.drop i).takeWhile isLow, 0, 0⟩]) := by
  unfold TokS at h ⊢
  rw [h, ← List.drop_drop, tw_dropN, drop_one hc, tok_cons, if_neg (low_ne hl), if_pos hl, dw_cons hl, tw_cons hl, map_snoc]
theorem dig_of {c : UInt8} (h : 49 ≤ c.toNat ∧ c.toNat ≤ 57) : isDig c = true ∧ isLow c = false ∧ c ≠ 32 :=
  ⟨isDig_iff.2 ⟨by omega, h.2⟩, by unfold isLow; simp; omega, by rintro rfl; have := h.1; revert this; decide⟩
theorem TokS.num {s : Bs} {i : Nat} {l : List Tok} {c : UInt8} (h : TokS s i l) (hc : s[i]? = some c) (hd : 49 ≤ c.toNat ∧ c.toNat ≤ 57) (hv : ¬ 65536 < decV 0 ((s.drop i).takeWhile isDig)) :
    TokS s (i + ((s.drop i).takeWhile isDig).length) (l ++ [⟨[], decV 0 ((s.drop i).takeWhile isDig), 0⟩]) := by
  obtain ⟨k1, k2, k3⟩ := dig_of hd
  unfold TokS at h ⊢
  rw [h, ← List.drop_drop, tw_dropN]
  rw [drop_one hc, tw_cons k1] at hv
  rw [drop_one hc, tok_cons, if_neg k3, if_neg (by rw [k2]; simp), if_pos hd, if_neg hv, dw_cons k1, tw_cons k1, map_snoc]
theorem TokS.long {s : Bs} {i : Nat} {l : List Tok} {c : UInt8} (h : TokS s i l) (hc : s[i]? = some c) (hd : 49 ≤ c.toNat ∧ c.toNat ≤ 57) (hv : 65536 < decV 0 ((s.drop i).takeWhile isDig)) : tokP s = none := by
  obtain ⟨k1, k2, k3⟩ := dig_of hd
  unfold TokS at h
  rw [drop_one hc, tw_cons k1] at hv
  rw [h, drop_one hc, tok_cons, if_neg k3, if_neg (by rw [k2]; simp), if_pos hd, if_pos hv]
  rfl
theorem pun_not {c : UInt8} (h : isPun c = true) : c ≠ 32 ∧ isLow c = false ∧ ¬ (49 ≤ c.toNat ∧ c.toNat ≤ 57) := by
  unfold isPun at h
  simp only [Bool.or_eq_true, beq_iff_eq] at h
  rcases h with (((rfl | rfl) | rfl) | rfl) | rfl <;> exact ⟨by decide, by decide, by decide⟩
theorem TokS.pun {s : Bs} {i : Nat} {l : List Tok} {c : UInt8} (h : TokS s i l) (hc : s[i]? = some c) (hp : isPun c = true) : TokS s (i + 1) (l ++ [⟨[], 0, c⟩]) := by
  obtain ⟨k1, k2, k3⟩ := pun_not hp
  unfold TokS at h ⊢
  rw [h, drop_one hc, tok_cons, if_neg k1, if_neg (by rw [k2]; simp), if_neg k3, if_pos hp, map_snoc]
theorem TokS.odd {s : Bs} {i : Nat} {l : List Tok} {c : UInt8} (h : TokS s i l) (hc : s[i]? = some c) (k1 : c ≠ 32) (k2 : isLow c = false) (k3 : ¬ (49 ≤ c.toNat ∧ c.toNat ≤ 57)) (k4 : isPun c = false) : tokP s = none := by
  unfold TokS at h
  rw [h, drop_one hc, tok_cons, if_neg k1, if_neg (by rw [k2]; simp), if_neg k3, if_neg (by rw [k4]; simp)]
  rfl
theorem decV_app (b : Bs) : ∀ (a : Bs) (acc : Nat), decV acc (a ++ b) = decV (decV acc a) b := by
  intro a
  induction a with
  | nil => intro acc; rfl
  | cons c a ih =>
    intro acc
    have e1 : decV acc (c :: a ++ b) = decV (acc * 10 + (c.toNat - 48)) (a ++ b) := rfl
    have e2 : decV acc (c :: a) = decV (acc * 10 + (c.toNat - 48)) a := rfl
    rw [e1, e2, ih]
theorem decV_take (t : Bs) (j : Nat) : decV 0 (t.take j) ≤ decV 0 t := by
  have e : decV 0 t = decV (decV 0 (t.take j)) (t.drop j) := by rw [← decV_app, List.take_append_drop]
  rw [e]
  exact decV_ge _ _
theorem decV_next {t : Bs} {j : Nat} {c : UInt8} (h : t[j]? = some c) : decV 0 (t.take (j + 1)) = decV 0 (t.take j) * 10 + (c.toNat - 48) := by
  rw [List.take_add_one, h]
  simp only [Option.toList_some]
  rw [decV_app]
  rfl
def stepB (signs : Bool) (r : List Tok) : Option (Int × List Tok) :=
  if (signs && r.head?.any (fun x => x.byte == 45)) = true then (match r.tail with | [] => none | x :: xs => if x.n = 0 then none else some (-(x.n : Int), xs))
  else (match r with | [] => none | x :: xs => if x.n = 0 then none else some ((x.n : Int), xs))
def stepA (l : List Int) (t : Tok) (ts : List Tok) : Option (List Tok) := if l = [] then some (t :: ts) else if t.byte = 44 then some ts else none
theorem inner_step (signs : Bool) (f : Nat) (l : List Int) (t : Tok) (ts : List Tok) :
    innerT signs (f + 1) l (t :: ts) = (stepA l t ts).bind fun r => (stepB signs r).bind fun p => innerT signs f (l ++ [p.1]) p.2 := by
  unfold stepA
  rw [innerT]
  generalize (if l = [] then some (t :: ts) else if t.byte = 44 then some ts else none) = q
  cases q with
  | none => rfl
  | some r =>
    simp only [Option.bind_some]
    unfold stepB
    cases r with
    | nil => cases signs <;> rfl
    | cons y ys =>
      have e : (List.head? (y :: ys)).any (fun x => x.byte == 45) = (y.byte == 45) := rfl
      rw [e]
      cases hb : (signs && y.byte == 45) with
      | true =>
        simp only [hb, if_true, List.tail_cons]
        cases ys with
        | nil => rfl
        | cons x xs =>
          simp only []
          split <;> simp [*]
      | false =>
        simp only [hb, Bool.false_eq_true, if_false]
        split <;> simp [*]
theorem stepA_len {l : List Int} {t : Tok} {ts r : List Tok} (h : stepA l t ts = some r) : r.length ≤ ts.length + 1 := by
  unfold stepA at h
  split at h
  · injection h with h; subst h; simp
  · split at h
    · injection h with h; subst h; omega
    · cases h
theorem stepB_len {signs : Bool} {r : List Tok} {p : Int × List Tok} (h : stepB signs r = some p) : p.2.length < r.length := by
  unfold stepB at h
  split at h
  · cases r with
    | nil => cases h
    | cons a r =>
      cases r with
      | nil => cases h
      | cons x xs =>
        simp only [List.tail_cons] at h
        split at h
        · cases h
        · injection h with h; subst h; simp; omega
  · cases r with
    | nil => cases h
    | cons x xs =>
      simp only at h
      split at h
      · cases h
      · injection h with h; subst h; simp
theorem inner_more (signs : Bool) : ∀ (f g : Nat) (l : List Int) (ts : List Tok), ts.length ≤ f → ts.length ≤ g → innerT signs f l ts = innerT signs g l ts
  | 0, g, l, ts, h, _ => by
    have : ts = [] := List.eq_nil_of_length_eq_zero (by omega)
    subst this
    cases g <;> rfl
  | f + 1, g, l, [], _, _ => by cases g <;> rfl
  | f + 1, 0, l, t :: ts, _, h => by simp at h
  | f + 1, g + 1, l, t :: ts, h1, h2 => by
    simp only [List.length_cons] at h1 h2
    rw [inner_step, inner_step]
    cases ha : stepA l t ts with
    | none => rfl
    | some r =>
      simp only [Option.bind_some]
      cases hb : stepB signs r with
      | none => rfl
      | some p =>
        have k1 := stepA_len ha
        have k2 := stepB_len hb
        simp only [Option.bind_some]
        exact inner_more signs f g _ _ (by omega) (by omega)
/-- Elements behind l of them, up to the end. -/
def itemsW (signs : Bool) (l : List Int) (ts : List Tok) : Option (List Int) := innerT signs ts.length l ts
theorem itemsW_no {signs : Bool} {l : List Int} {t : Tok} {ts : List Tok} (h : stepA l t ts = none) : itemsW signs l (t :: ts) = none := by
  unfold itemsW
  rw [List.length_cons, inner_step, h]; rfl
theorem itemsW_bad {signs : Bool} {l : List Int} {t : Tok} {ts r : List Tok} (h : stepA l t ts = some r) (hb : stepB signs r = none) : itemsW signs l (t :: ts) = none := by
  unfold itemsW
  rw [List.length_cons, inner_step, h, Option.bind_some, hb]; rfl
theorem itemsW_go {signs : Bool} {l : List Int} {t : Tok} {ts r : List Tok} {p : Int × List Tok} (h : stepA l t ts = some r) (hb : stepB signs r = some p) : itemsW signs l (t :: ts) = itemsW signs (l ++ [p.1]) p.2 := by
  unfold itemsW
  have k1 := stepA_len h
  have k2 := stepB_len hb
  rw [List.length_cons, inner_step, h, Option.bind_some, hb, Option.bind_some]
  exact inner_more signs _ _ _ _ (by omega) (Nat.le_refl _)
theorem stepA_first (t : Tok) (ts : List Tok) : stepA [] t ts = some (t :: ts) := rfl
theorem stepA_comma {l : List Int} {t : Tok} {ts : List Tok} (h : l ≠ []) (ht : t.byte = 44) : stepA l t ts = some ts := by unfold stepA; rw [if_neg h, if_pos ht]
theorem stepA_none {l : List Int} {t : Tok} {ts : List Tok} (h : l ≠ []) (ht : t.byte ≠ 44) : stepA l t ts = none := by unfold stepA; rw [if_neg h, if_neg ht]
theorem stepB_nil (signs : Bool) : stepB signs [] = none := by cases signs <;> rfl
theorem stepB_minus_nil {x : Tok} (h : x.byte = 45) : stepB true [x] = none := by unfold stepB; simp [h]
theorem stepB_minus {x y : Tok} {xs : List Tok} (h : x.byte = 45) : stepB true (x :: y :: xs) = if y.n = 0 then none else some (-(y.n : Int), xs) := by unfold stepB; simp [h]
theorem stepB_plain {signs : Bool} {x : Tok} {xs : List Tok} (h : (signs && x.byte == 45) = false) : stepB signs (x :: xs) = if x.n = 0 then none else some ((x.n : Int), xs) := by
  unfold stepB
  rw [if_neg (by simpa using h)]
theorem lits_eq (signs : Bool) (t : List Tok) : literalsT t signs = if t.length < 2 ∨ (t.head?.map (·.byte)) ≠ some 40 ∨ (t.getLast?.map (·.byte)) ≠ some 41 then none else itemsW signs [] (t.tail.dropLast) := by
  cases t with
  | nil => rfl
  | cons x r =>
    rw [literalsT_cons]
    cases r with
    | nil => simp
    | cons y r =>
      rw [if_neg (by simp)]
      by_cases h1 : x.byte = 40
      · rw [if_neg (by simpa using h1)]
        by_cases h2 : ((y :: r).getLast?.map (·.byte)) = some 41
        · rw [if_neg (by simpa using h2), if_neg (by
            rintro (h | h | h)
            · simp at h; omega
            · exact h (by simp [h1])
            · exact h (by rw [List.getLast?_cons_cons]; exact h2))]
          unfold itemsW
          exact inner_more signs _ _ _ _ (by simp) (Nat.le_refl _)
        · rw [if_pos h2, if_pos (.inr (.inr (by rw [List.getLast?_cons_cons]; exact h2)))]
      · rw [if_pos h1, if_pos (.inr (.inl (by simpa using h1)))]

theorem split_tw : ∀ s : Bs, s ≠ [] → splitNL s = s.takeWhile (fun c => c != 10) :: splitNL (s.drop ((s.takeWhile (fun c => c != 10)).length + 1))
  | [], h => absurd rfl h
  | c :: r, _ => by
    have e : splitNL (c :: r) = if c = 10 then [] :: splitNL r else consHead c (splitNL r) := rfl
    rw [e]
    by_cases h : c = 10
    · subst h
      rw [if_pos rfl, List.takeWhile_cons, if_neg (by decide)]
      rfl
    · rw [if_neg h, List.takeWhile_cons, if_pos (by simpa using h)]
      cases hr : r with
      | nil => rfl
      | cons d t =>
        rw [← hr, split_tw r (by rw [hr]; simp)]
        rfl
theorem lines_blank {L : Bs → PLine} {r : RS} {no : Nat} {t : Bs} {ts : List Bs} (h : blankB t = true) : linesP L r no (t :: ts) = linesP L r (no + 1) ts := by rw [linesP, if_pos h]
theorem lines_err {L : Bs → PLine} {r : RS} {no : Nat} {t : Bs} {ts : List Bs} (h : blankB t = false) (he : (addL r no (L t)).1 ≠ 0) : linesP L r no (t :: ts) = (((addL r no (L t)).1, no), r) := by
  rw [linesP, if_neg (by rw [h]; simp)]
  generalize addL r no (L t) = x at *
  obtain ⟨a, b⟩ := x
  simp only at he ⊢
  rw [if_neg he]
theorem lines_ok {L : Bs → PLine} {r : RS} {no : Nat} {t : Bs} {ts : List Bs} (h : blankB t = false) (he : (addL r no (L t)).1 = 0) : linesP L r no (t :: ts) = linesP L (addL r no (L t)).2 (no + 1) ts := by
  rw [linesP, if_neg (by rw [h]; simp)]
  generalize addL r no (L t) = x at *
  obtain ⟨a, b⟩ := x
  simp only at he ⊢
  rw [if_pos he]
theorem blank_hash {l : Bs} (h : l[0]? = some 35) : blankB l = true := by
  unfold blankB
  cases l with
  | nil => simp at h
  | cons c r => simp at h; subst h; rfl
theorem blank_all {l : Bs} (h : l[0]? ≠ some 35) : blankB l = l.all fun c => c == 32 := by
  unfold blankB
  cases l with
  | nil => rfl
  | cons c r =>
    have hc : c ≠ 35 := by simpa using h
    have : ((c :: r).head? == some 35) = false := by simpa using hc
    rw [this, Bool.false_or]
theorem all_drop {l : Bs} {i : Nat} {c : UInt8} (p : UInt8 → Bool) (h : l[i]? = some c) : (l.drop i).all p = (p c && (l.drop (i + 1)).all p) := by rw [drop_one h, List.all_cons]
theorem stray_cons (S : Nat → Bool) (g : PGate) (gs : List PGate) (n : Nat) (ns : List Nat) : strayP S (g :: gs) (n :: ns) = if (g.ins.any fun l => !S (absN l)) = true then some n else strayP S gs ns := rfl
/-- The kind's words, tried one behind the other. -/
def wordAt : Nat → Bs
  | 0 => wAnd
  | 1 => wOr
  | 2 => wXor
  | _ => wIte
theorem kind_here {w : Bs} {i : Nat} (hi : i < 4) (h : wordAt i = w) (hb : ∀ j, j < i → wordAt j ≠ w) : kindP w = i + 1 := by
  subst h
  match i, hi with
  | 0, _ => decide
  | 1, _ => decide
  | 2, _ => decide
  | 3, _ => decide
theorem kind_no {w : Bs} (hb : ∀ j, j < 4 → wordAt j ≠ w) : kindP w = 0 := by
  unfold kindP
  rw [if_neg (fun e => hb 0 (by decide) e.symm), if_neg (fun e => hb 1 (by decide) e.symm), if_neg (fun e => hb 2 (by decide) e.symm), if_neg (fun e => hb 3 (by decide) e.symm)]
end Go.Proofs.YtnlobmepajakcaaGreatDoor
namespace Go.Proofs.YtnlobmepajakcaaGreatDoor
open Go.RowKit Go.Shelf
attribute [local go_sem] Oper.semAt_some

theorem absR_nat {x : Int} (h : -65536 ≤ x ∧ x ≤ 65536) : absR x = (x.natAbs : Int) := by
  unfold absR
  split
  · rw [if_neg (by omega)]; omega
  · omega
end Go.Proofs.YtnlobmepajakcaaGreatDoor
namespace Go.Proofs.YtnlobmepajakcaaGreatDoor
open Go.RowKit Go.Shelf
attribute [local go_sem] Oper.semAt_some

set_option maxRecDepth 100000 in
theorem words_any (w : World) : Calls Tryz.prog 63 #[] w fun e w' => e = .returned (.slice (some ⟨w.heap.size, 0, none⟩) 4 4) ∧ Below w.heap.size w w' ∧ w'.heap[w.heap.size]? = some (.cells #[sv wAnd, sv wOr, sv wXor, sv wIte] 9 (0, 0)) ∧ w'.heap.size = w.heap.size + 1 := by
  obtain ⟨w1, hw1, -, -, hz1, hB1, q1⟩ := new_block w #[sv wAnd, sv wOr, sv wXor, sv wIte] 9
  unfold sv wAnd wOr wXor wIte at hw1
  go_enter Tryz.func63, Tryz.ntmps63
  go_wp2_with fail
  go_ret
  exact ⟨rfl, hB1, q1, hz1⟩
end Go.Proofs.YtnlobmepajakcaaGreatDoor
namespace Go.Proofs.YtnlobmepajakcaaGreatDoor
open Go.RowKit Go.Shelf
attribute [local go_sem] Oper.semAt_some

set_option maxRecDepth 100000 in
set_option maxHeartbeats 1000000 in
theorem blank_any (l : Bs) (w : World) (hl : l.length ≤ 4611686018427387904) : Calls Tryz.prog 64 #[.string ⟨l.toArray⟩] w fun e w' => e = .returned (.bool (blankB l)) ∧ w' = w := by
  by_cases h0 : l = []
  · subst h0
    go_enter Tryz.func64, Tryz.ntmps64
    go_wp2_with fail
    go_loopg [3] 0 (fun gg s3 wr => s3 = .int .i64 0 ∧ wr = w)
    case atStart => exact ⟨rfl, rfl⟩
    case round =>
      obtain ⟨rfl, rfl⟩ := hrel
      go_wp2_with fail
      go_ret
      exact ⟨rfl, rfl⟩
  · obtain ⟨c0, hc0, -, -⟩ := nth (show 0 < l.length from List.length_pos_iff.2 h0)
    have hb0 := byte_at hc0
    have hlp : 0 < l.length := List.length_pos_iff.2 h0
    by_cases h35 : c0 = 35
    · subst h35
      have HB := hid (blank_hash hc0)
      clear hc0 h0
      go_enter Tryz.func64, Tryz.ntmps64
      go_wp2_with fail
      go_ret
      exact ⟨ret_bool2 HB.out.symm, rfl⟩
    · have hz35 : ((c0.toNat : Int) == 35) = false := beq_eq_false_iff_ne.2 (fun e => h35 (UInt8.toNat_inj.1 (by show c0.toNat = 35; omega)))
      have HB := hid (blank_all (l := l) (by rw [hc0]; intro e; injection e with e; exact h35 e))
      clear hc0 h0 h35
      go_enter Tryz.func64, Tryz.ntmps64
      go_wp2_with fail
      clear hb0
      go_loopg [3] l.length (fun gg s3 wr => ∃ i : Nat, i ≤ l.length ∧ l.length - i ≤ gg ∧ s3 = .int .i64 (i : Int) ∧ wr = w ∧ Hid (blankB l = (l.drop i).all fun c => c == 32))
      case atStart => exact ⟨0, by omega, by omega, rfl, rfl, hid HB.out⟩
      case round =>
        obtain ⟨i, hi, hg, rfl, rfl, HR⟩ := hrel
        by_cases hlt : i < l.length
        · have hltz : (i : Int) < (l.length : Int) := by omega
          obtain ⟨c, hc, -, -⟩ := nth hlt
          have hb := byte_at hc
          have HD := hid (all_drop (fun c => c == 32) hc)
          clear hc
          by_cases h32 : c = 32
          · subst h32
            go_wp2_with fail
            go_roundg (l.length - (i + 1))
            case measure => omega
            case rel => exact ⟨i + 1, by omega, by omega, by go_num, rfl, hid (by rw [HR.out, HD.out]; rfl)⟩
          · have hz : ((c.toNat : Int) != 32) = true := bne_iff_ne.2 (fun e => h32 (UInt8.toNat_inj.1 (by show c.toNat = 32; omega)))
            have HF := hid (show blankB l = false by rw [HR.out, HD.out, beq_eq_false_iff_ne.2 h32]; rfl)
            clear h32
            go_wp2_with fail
            go_ret
            exact ⟨ret_bool2 HF.out.symm, rfl⟩
        · have hltz : ¬ (i : Int) < (l.length : Int) := by omega
          have HF := hid (show blankB l = true by rw [HR.out, List.drop_eq_nil_of_le (by omega)]; rfl)
          go_wp2_with fail
          go_ret
          exact ⟨ret_bool2 HF.out.symm, rfl⟩
set_option maxRecDepth 100000 in
theorem is_any (v : Value) (n b k : Int) (w : World) : Calls Tryz.prog 106 #[.agg #[v, .int .i64 n, .int .u8 b], .int .u8 k] w fun e w' => e = .returned (.bool (b == k)) ∧ Below w.heap.size w w' := by
  obtain ⟨w1, hw1, -, -, hz1, hB1, q1⟩ := new_block w #[v, .int .i64 n, .int .u8 b] 153
  have c2 := cell_row q1 (j := 2) (v := .int .u8 b) rfl
  go_enter Tryz.func106, Tryz.ntmps106
  go_wp2_with fail
  go_ret
  exact ⟨rfl, hB1⟩
set_option maxRecDepth 100000 in
set_option maxHeartbeats 1000000 in
theorem kind_any (wd : Bs) (w : World) : Calls Tryz.prog 108 #[.string ⟨wd.toArray⟩] w fun e w' => e = .returned (.int .u8 (kindP wd : Int)) ∧ Below w.heap.size w w' := by
  go_enter Tryz.func108, Tryz.ntmps108
  go_wp2_with fail
  go_loopg [3] 4 (fun gg s3 wr => ∃ i : Nat, i ≤ 4 ∧ 4 - i ≤ gg ∧ s3 = .int .i64 (i : Int) ∧ Below w.heap.size w wr ∧ Hid (∀ j, j < i → wordAt j ≠ wd))
  case atStart => exact ⟨0, by omega, by omega, rfl, Below.refl _ _, hid (fun j hj => by omega)⟩
  case round =>
    obtain ⟨i, hi, hg, rfl, hB, HN⟩ := hrel
    by_cases hlt : i < 4
    · have hltz : (i : Int) < 4 := by omega
      have CW := words_any wr
      have hcell : (#[sv wAnd, sv wOr, sv wXor, sv wIte] : Array Value)[i]? = some (.string ⟨(wordAt i).toArray⟩) := by
        match i, hlt with
        | 0, _ => rfl
        | 1, _ => rfl
        | 2, _ => rfl
        | 3, _ => rfl
      by_cases he : wordAt i = wd
      · have HK := hid (kind_here hlt he HN.out)
        rw [he] at hcell
        clear he
        go_wp2_with (first | (go_at_call 63; refine CW.mono ?_; rintro e w1 ⟨rfl, hB1, q1, hz1⟩; have c1 := cell_row q1 hcell) | fail)
        go_ret
        exact ⟨ret_int (by rw [HK.out]; omega), below_then hB hB.size hB1⟩
      · have HN2 := hid (show ∀ j, j < i + 1 → wordAt j ≠ wd by
          intro j hj
          by_cases hji : j = i
          · subst hji; exact he
          · exact HN.out j (by omega))
        generalize wordAt i = wi at he hcell
        have hne : (wi == wd) = false := beq_eq_false_iff_ne.2 he
        clear he
        go_wp2_with (first | (go_at_call 63; refine CW.mono ?_; rintro e w1 ⟨rfl, hB1, q1, hz1⟩; have c1 := cell_row q1 hcell) | fail)
        go_roundg (4 - (i + 1))
        case measure => omega
        case rel => exact ⟨i + 1, by omega, by omega, by go_num, below_then hB hB.size hB1, HN2⟩
    · have hltz : ¬ (i : Int) < 4 := by omega
      have HK := hid (kind_no (w := wd) (fun j hj => HN.out j (by omega)))
      go_wp2_with fail
      go_ret
      exact ⟨ret_int (by rw [HK.out]; rfl), hB⟩
end Go.Proofs.YtnlobmepajakcaaGreatDoor
