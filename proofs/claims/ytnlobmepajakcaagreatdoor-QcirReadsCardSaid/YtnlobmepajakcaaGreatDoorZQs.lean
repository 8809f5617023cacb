/- The two readings of a line are one: the scanner's and the tokens'; no condition / Read of the text of a valid net gives the net; no condition / Read of the text of a valid net gives the net; no condition. -/
import Derived.Test.YtnlobmepajakcaaGreatDoorZQb
set_option linter.unusedVariables false
set_option linter.unusedSimpArgs false
namespace Go.Proofs.YtnlobmepajakcaaGreatDoor
open Go.RowKit Go.Shelf

theorem dropWhile_len {α : Type} (p : α → Bool) : ∀ l : List α, (l.dropWhile p).length ≤ l.length
  | [] => Nat.le_refl _
  | a :: l => by
    rw [List.dropWhile_cons]
    split
    · exact Nat.le_succ_of_le (dropWhile_len p l)
    · exact Nat.le_refl _
theorem sp_len (s : Bs) : (sp s).length ≤ s.length := dropWhile_len _ s
theorem sp_sp (s : Bs) : sp (sp s) = sp s := by
  unfold sp
  induction s with
  | nil => rfl
  | cons c s ih =>
    rw [List.dropWhile_cons]
    split
    · exact ih
    · rename_i h
      rw [List.dropWhile_cons, if_neg h]
theorem sp_cons {c : UInt8} (h : c ≠ 32) (r : Bs) : sp (c :: r) = c :: r := by
  unfold sp
  rw [List.dropWhile_cons, if_neg (by simpa using h)]
theorem sp_space (r : Bs) : sp (32 :: r) = sp r := by
  unfold sp
  rw [List.dropWhile_cons, if_pos (by rfl)]
theorem sp_head {s : Bs} {c : UInt8} {r : Bs} (h : sp s = c :: r) : c ≠ 32 := by
  induction s with
  | nil => cases h
  | cons d s ih =>
    by_cases hd : d = 32
    · subst hd; rw [sp_space] at h; exact ih h
    · rw [sp_cons hd] at h; injection h with h1 h2; rw [← h1]; exact hd
theorem tokGo_more : ∀ (f : Nat) (s : Bs) (g : Nat), s.length ≤ f → s.length ≤ g → tokGo f s = tokGo g s
  | 0, s, g, h, _ => by
    have : s = [] := List.eq_nil_of_length_eq_zero (by omega)
    subst this
    cases g <;> rfl
  | f + 1, [], g, _, _ => by cases g <;> rfl
  | f + 1, c :: r, 0, _, h => by simp at h
  | f + 1, c :: r, g + 1, h1, h2 => by
    simp only [List.length_cons] at h1 h2
    have a1 := dropWhile_len isLow r
    have a2 := dropWhile_len isDig r
    unfold tokGo
    rw [tokGo_more f r g (by omega) (by omega), tokGo_more f (r.dropWhile isLow) g (by omega) (by omega), tokGo_more f (r.dropWhile isDig) g (by omega) (by omega)]
theorem tok_nil : tokP [] = some [] := rfl
theorem tok_cons (c : UInt8) (r : Bs) : tokP (c :: r) =
    if c = 32 then tokP r
    else if isLow c = true then (tokP (r.dropWhile isLow)).map fun ts => ⟨c :: r.takeWhile isLow, 0, 0⟩ :: ts
    else if 49 ≤ c.toNat ∧ c.toNat ≤ 57 then
      if 65536 < decV 0 (c :: r.takeWhile isDig) then none else (tokP (r.dropWhile isDig)).map fun ts => ⟨[], decV 0 (c :: r.takeWhile isDig), 0⟩ :: ts
    else if isPun c = true then (tokP r).map fun ts => ⟨[], 0, c⟩ :: ts
    else none := by
  unfold tokP
  have a1 := dropWhile_len isLow r
  have a2 := dropWhile_len isDig r
  rw [List.length_cons, tokGo, tokGo_more r.length (r.dropWhile isLow) (r.dropWhile isLow).length (by omega) (Nat.le_refl _), tokGo_more r.length (r.dropWhile isDig) (r.dropWhile isDig).length (by omega) (Nat.le_refl _)]
theorem tok_sp (s : Bs) : tokP (sp s) = tokP s := by
  induction s with
  | nil => rfl
  | cons c s ih =>
    by_cases h : c = 32
    · subst h; rw [sp_space, ih, tok_cons, if_pos rfl]
    · rw [sp_cons h]
theorem tok_empty {s : Bs} : tokP s = some [] ↔ sp s = [] := by
  rw [← tok_sp]
  constructor
  · intro h
    cases hs : sp s with
    | nil => rfl
    | cons c r =>
      have hc := sp_head hs
      rw [hs, tok_cons, if_neg hc] at h
      split at h
      · cases hq : tokP (r.dropWhile isLow) <;> simp [hq] at h
      · split at h
        · split at h
          · cases h
          · cases hq : tokP (r.dropWhile isDig) <;> simp [hq] at h
        · split at h
          · cases hq : tokP r <;> simp [hq] at h
          · cases h
  · intro h; rw [h]; rfl
/-- What the first token is. -/
structure FirstT (c : UInt8) (x : Tok) : Prop where
  byte : x.byte = if isPun c = true then c else 0
  n0 : ¬ (49 ≤ c.toNat ∧ c.toNat ≤ 57) → x.n = 0
  n1 : 49 ≤ c.toNat ∧ c.toNat ≤ 57 → x.n ≠ 0
  word : isLow c = false → x.word = []
  byn : x.byte ≠ 0 → x.n = 0 ∧ x.word = []
theorem decV_ge : ∀ (t : Bs) (acc : Nat), acc ≤ decV acc t
  | [], acc => Nat.le_refl _
  | c :: t, acc => by
    have := decV_ge t (acc * 10 + (c.toNat - 48))
    unfold decV
    omega
theorem first_tok {c : UInt8} {r : Bs} {x : Tok} {ts : List Tok} (hc : c ≠ 32) (h : tokP (c :: r) = some (x :: ts)) : FirstT c x := by
  rw [tok_cons, if_neg hc] at h
  have lowpun : isLow c = true → isPun c = false := fun h => by
    unfold isLow at h; unfold isPun
    simp only [Bool.and_eq_true, decide_eq_true_eq] at h
    simp only [Bool.or_eq_false_iff, beq_eq_false_iff_ne]
    refine ⟨⟨⟨⟨?_, ?_⟩, ?_⟩, ?_⟩, ?_⟩ <;> · rintro rfl; simp at h
  have digpun : 49 ≤ c.toNat ∧ c.toNat ≤ 57 → isPun c = false := fun h => by
    unfold isPun
    simp only [Bool.or_eq_false_iff, beq_eq_false_iff_ne]
    refine ⟨⟨⟨⟨?_, ?_⟩, ?_⟩, ?_⟩, ?_⟩ <;> · rintro rfl; simp at h
  by_cases h1 : isLow c = true
  · rw [if_pos h1] at h
    obtain ⟨a, -, he⟩ := Option.map_eq_some_iff.1 h
    injection he with he1 he2
    subst he1
    refine ⟨by rw [lowpun h1]; rfl, fun _ => rfl, fun hd => ?_, fun hn => (by rw [h1] at hn; cases hn), fun hb => absurd rfl hb⟩
    unfold isLow at h1
    simp only [Bool.and_eq_true, decide_eq_true_eq] at h1
    omega
  · rw [if_neg h1] at h
    by_cases h2 : 49 ≤ c.toNat ∧ c.toNat ≤ 57
    · rw [if_pos h2] at h
      split at h
      · cases h
      · obtain ⟨a, -, he⟩ := Option.map_eq_some_iff.1 h
        injection he with he1 he2
        subst he1
        refine ⟨by rw [digpun h2]; rfl, fun hn => absurd h2 hn, fun _ => ?_, fun _ => rfl, fun hb => absurd rfl hb⟩
        have := decV_ge (r.takeWhile isDig) (0 * 10 + (c.toNat - 48))
        show decV 0 (c :: r.takeWhile isDig) ≠ 0
        unfold decV
        omega
    · rw [if_neg h2] at h
      split at h
      · rename_i h3
        obtain ⟨a, -, he⟩ := Option.map_eq_some_iff.1 h
        injection he with he1 he2
        subst he1
        exact ⟨by rw [h3]; rfl, fun _ => rfl, fun hd => absurd hd h2, fun _ => rfl, fun _ => ⟨rfl, rfl⟩⟩
      · cases h

def numT : List Tok → Option (Int × List Tok)
  | x :: r => if x.n = 0 then none else some ((x.n : Int), r)
  | [] => none
def litT (signs : Bool) (ts : List Tok) : Option (Int × List Tok) :=
  match ts with
  | x :: r => if signs = true ∧ x.byte = 45 then (numT r).map fun p => (-p.1, p.2) else numT (x :: r)
  | [] => none
def itemsT (signs : Bool) : Nat → List Int → List Tok → Option (List Int)
  | 0, _, _ => none
  | _ + 1, _, [] => none
  | g + 1, l, x :: r => if x.byte = 41 then (if r = [] then some l else none) else
      match (if l = [] then some (x :: r) else if x.byte = 44 then some r else none) with
      | none => none
      | some q => match litT signs q with
        | none => none
        | some p => itemsT signs g (l ++ [p.1]) p.2
theorem numT_cons (x : Tok) (r : List Tok) : numT (x :: r) = if x.n = 0 then none else some ((x.n : Int), r) := rfl
theorem litT_cons (signs : Bool) (x : Tok) (r : List Tok) : litT signs (x :: r) = if signs = true ∧ x.byte = 45 then (numT r).map (fun p => (-p.1, p.2)) else numT (x :: r) := rfl
def elP (signs : Bool) : Scan → Int × Scan := if signs = true then literalP else numberP
def optS (r : List Int × Scan) : Option (List Int) := if r.2.ok = true then some r.1 else none
/-- What a step of the scanner has to do with tokens. -/
def SimT (s : Scan) (r : Int × Scan) (step : List Tok → Option (Int × List Tok)) : Prop :=
  if r.2.ok = true then sp r.2.rest = r.2.rest ∧ r.2.rest.length < s.rest.length ∧ (tokP s.rest).bind step = (tokP r.2.rest).map fun ts => (r.1, ts)
  else (tokP s.rest).bind step = none
theorem isDig_iff {c : UInt8} : isDig c = true ↔ 48 ≤ c.toNat ∧ c.toNat ≤ 57 := by unfold isDig; simp
theorem low_dig {c : UInt8} (h : isDig c = true) : isLow c = false := by
  rw [isDig_iff] at h
  unfold isLow
  simp only [Bool.and_eq_false_iff, decide_eq_false_iff_not]
  left; omega
theorem sp_short {s : Bs} (c : UInt8) : (sp s).length < (c :: s).length := by have := sp_len s; simp; omega
theorem num_sim {s : Scan} (ho : s.ok = true) (hs : sp s.rest = s.rest) : SimT s (numberP s) numT := by
  obtain ⟨rest, ok⟩ := s
  simp only at ho hs
  subst ho
  unfold SimT numberP
  cases rest with
  | nil => rfl
  | cons c r =>
    have hc : c ≠ 32 := sp_head hs
    by_cases hd : isDig c = true
    · have hd' := isDig_iff.1 hd
      rw [List.takeWhile_cons, if_pos hd, List.dropWhile_cons, if_pos hd]
      by_cases h0 : c = 48
      · subst h0
        have e : numV (48 :: r.takeWhile isDig) = none := by unfold numV; rw [if_neg (by simp), if_pos (by rfl)]
        rw [e]
        simp only [Bool.false_eq_true, if_false]
        rw [tok_cons, if_neg hc, if_neg (by rw [low_dig hd]; simp), if_neg (by decide), if_neg (by decide)]
        rfl
      · have hn : 49 ≤ c.toNat ∧ c.toNat ≤ 57 := by
          refine ⟨?_, hd'.2⟩
          rcases Nat.lt_or_ge c.toNat 49 with h | h
          · exact absurd (UInt8.toNat_inj.1 (show c.toNat = (48 : UInt8).toNat by show c.toNat = 48; omega)) h0
          · exact h
        have hv := decV_ge (r.takeWhile isDig) (0 * 10 + (c.toNat - 48))
        have hv0 : decV 0 (c :: r.takeWhile isDig) ≠ 0 := by show decV (0 * 10 + (c.toNat - 48)) _ ≠ 0; omega
        have eT : tokP (c :: r) = if 65536 < decV 0 (c :: r.takeWhile isDig) then none else (tokP (r.dropWhile isDig)).map fun ts => ⟨[], decV 0 (c :: r.takeWhile isDig), 0⟩ :: ts := by
          rw [tok_cons, if_neg hc, if_neg (by rw [low_dig hd]; simp), if_pos hn]
        rw [eT]
        by_cases hbig : 65536 < decV 0 (c :: r.takeWhile isDig)
        · have e : numV (c :: r.takeWhile isDig) = none := by unfold numV; rw [if_neg (by simp), if_neg (by simpa using h0), if_pos hbig]
          rw [e, if_pos hbig]
          rfl
        · have e : numV (c :: r.takeWhile isDig) = some (decV 0 (c :: r.takeWhile isDig)) := by unfold numV; rw [if_neg (by simp), if_neg (by simpa using h0), if_neg hbig]
          rw [e, if_neg hbig]
          simp only [if_true]
          refine ⟨sp_sp _, ?_, ?_⟩
          · have := sp_len (r.dropWhile isDig); have := dropWhile_len isDig r; simp only [List.length_cons]; omega
          · rw [tok_sp]
            cases tokP (r.dropWhile isDig) with
            | none => rfl
            | some ts => simp [numT, hv0]
    · rw [List.takeWhile_cons, if_neg hd]
      have e : numV [] = none := rfl
      rw [e]
      simp only [Bool.false_eq_true, if_false]
      cases ht : tokP (c :: r) with
      | none => rfl
      | some ts =>
        cases ts with
        | nil => rfl
        | cons x ts =>
          have F := first_tok hc ht
          have : x.n = 0 := F.n0 (fun h => hd (isDig_iff.2 ⟨by omega, h.2⟩))
          simp [numT, this]
theorem pun_tok {c : UInt8} (hp : isPun c = true) (r : Bs) : tokP (c :: r) = (tokP r).map fun ts => ⟨[], 0, c⟩ :: ts := by
  have hcases : c = 40 ∨ c = 41 ∨ c = 44 ∨ c = 61 ∨ c = 45 := by
    unfold isPun at hp
    simp only [Bool.or_eq_true, beq_iff_eq] at hp
    rcases hp with (((h | h) | h) | h) | h <;> simp [h]
  rw [tok_cons]
  rcases hcases with rfl | rfl | rfl | rfl | rfl <;> rfl
theorem sign_yes {c : UInt8} {s : Bs} (h : s.head? = some c) (hp : isPun c = true) : signP c s = (true, sp s.tail) ∧ tokP s = (tokP (sp s.tail)).map (fun ts => (⟨[], 0, c⟩ : Tok) :: ts) ∧ (sp s.tail).length < s.length := by
  cases s with
  | nil => cases h
  | cons d r =>
    injection h with h
    subst h
    refine ⟨by simp [signP], ?_, sp_short d⟩
    rw [List.tail_cons, tok_sp]
    exact pun_tok hp r
theorem sign_no {c : UInt8} {s : Bs} (h : s.head? ≠ some c) (hc0 : c ≠ 0) (hs : sp s = s) : signP c s = (false, s) ∧ ∀ x ts, tokP s = some (x :: ts) → x.byte ≠ c := by
  refine ⟨by unfold signP; rw [if_neg h], fun x ts ht hx => ?_⟩
  cases s with
  | nil => cases ht
  | cons d r =>
    have F := first_tok (sp_head hs) ht
    have hb := F.byte
    rw [hx] at hb
    split at hb
    · exact h (by rw [hb]; rfl)
    · exact hc0 hb
theorem lit_sim (signs : Bool) {s : Scan} (ho : s.ok = true) (hs : sp s.rest = s.rest) : SimT s (elP signs s) (litT signs) := by
  cases signs with
  | false =>
    have e : litT false = numT := by
      funext ts
      cases ts with
      | nil => rfl
      | cons x r => simp [litT]
    rw [e]
    exact num_sim ho hs
  | true =>
    show SimT s (literalP s) (litT true)
    unfold literalP
    by_cases h : s.rest.head? = some 45
    · obtain ⟨e1, e2, e3⟩ := sign_yes h (by decide)
      rw [e1]
      simp only [if_true]
      have N := num_sim (s := ⟨sp s.rest.tail, s.ok⟩) ho (sp_sp _)
      unfold SimT at N ⊢
      rw [e2]
      generalize numberP ⟨sp s.rest.tail, s.ok⟩ = q at N ⊢
      simp only at N ⊢
      have em : ((tokP (sp s.rest.tail)).map fun ts => (⟨[], 0, 45⟩ : Tok) :: ts).bind (litT true) = ((tokP (sp s.rest.tail)).bind numT).map fun p => (-p.1, p.2) := by
        cases tokP (sp s.rest.tail) with
        | none => rfl
        | some ts => rfl
      rw [em]
      split
      · rename_i hq
        rw [if_pos hq] at N
        refine ⟨N.1, by have := N.2.1; omega, ?_⟩
        rw [N.2.2]
        cases tokP q.2.rest <;> rfl
      · rename_i hq
        rw [if_neg hq] at N
        rw [N]; rfl
    · obtain ⟨e1, e2⟩ := sign_no h (by decide) hs
      rw [e1]
      simp only [Bool.false_eq_true, if_false]
      have N := num_sim ho hs
      unfold SimT at N ⊢
      have em : (tokP s.rest).bind (litT true) = (tokP s.rest).bind numT := by
        cases ht : tokP s.rest with
        | none => rfl
        | some ts =>
          cases ts with
          | nil => rfl
          | cons x ts =>
            have := e2 x ts ht
            simp [litT, this]
      rw [em]
      exact N
theorem el_stuck (signs : Bool) {s : Scan} (h : s.ok = false) : (elP signs s).2.ok = false := by
  have hn : ∀ t : Scan, t.ok = false → (numberP t).2.ok = false := fun t ht => by
    unfold numberP
    split
    · exact ht
    · rfl
  cases signs with
  | false => exact hn s h
  | true =>
    show (literalP s).2.ok = false
    unfold literalP
    split
    · exact hn _ h
    · exact hn _ h
theorem list_stuck (el : Scan → Int × Scan) (f : Nat) (l : List Int) {s : Scan} (h : s.ok = false) : optS (listE (listGo el f l s)) = none := by
  have e : listGo el f l s = (l, s) := by
    cases f with
    | zero => rfl
    | succ f => unfold listGo moreP; rw [h]; rfl
  rw [e]
  unfold optS listE needP
  simp [h]
theorem need_stuck {c : UInt8} {s : Scan} (h : s.ok = false) : (needP c s).ok = false := by unfold needP; simp [h]
theorem items_sim (signs : Bool) : ∀ (n : Nat) (s : Scan) (l : List Int) (f g : Nat), s.rest.length ≤ n → s.ok = true → sp s.rest = s.rest → s.rest.length + 2 ≤ f → s.rest.length + 1 ≤ g →
    optS (listE (listGo (elP signs) f l s)) = (tokP s.rest).bind (itemsT signs g l) := by
  intro n
  induction n with
  | zero =>
    intro s l f g hn ho hs hf hg
    have hr : s.rest = [] := List.eq_nil_of_length_eq_zero (by omega)
    obtain ⟨f, rfl⟩ : ∃ k, f = k + 1 := ⟨f - 1, by omega⟩
    obtain ⟨g, rfl⟩ : ∃ k, g = k + 1 := ⟨g - 1, by omega⟩
    have hm : moreP s = true := by unfold moreP; rw [ho, hr]; rfl
    rw [listGo, if_pos hm]
    have hb : (roundP (elP signs) l s).2.ok = false := by
      unfold roundP
      simp only
      split
      · apply el_stuck
        unfold needP signP; rw [hr]; rfl
      · have N := lit_sim signs ho hs
        unfold SimT at N
        cases h : (elP signs s).2.ok with
        | false => rfl
        | true => rw [if_pos h] at N; have := N.2.1; rw [hr] at this; simp at this
    rw [list_stuck _ _ _ hb, hr]
    rfl
  | succ n ih =>
    intro s l f g hn ho hs hf hg
    obtain ⟨f, rfl⟩ : ∃ k, f = k + 1 := ⟨f - 1, by omega⟩
    obtain ⟨g, rfl⟩ : ∃ k, g = k + 1 := ⟨g - 1, by omega⟩
    by_cases h41 : s.rest.head? = some 41
    · obtain ⟨e1, e2, e3⟩ := sign_yes h41 (by decide)
      have hm : moreP s = false := by unfold moreP; rw [h41]; simp
      rw [listGo, if_neg (by rw [hm]; simp)]
      unfold optS listE needP
      rw [e1, e2, ho]
      simp only [Bool.and_true, Bool.true_and]
      cases ht : tokP (sp s.rest.tail) with
      | none =>
        cases hr : sp s.rest.tail with
        | nil => rw [hr] at ht; cases ht
        | cons c r => rfl
      | some ts =>
        cases ts with
        | nil =>
          rw [tok_empty, sp_sp] at ht
          rw [ht]; rfl
        | cons x ts =>
          cases hr : sp s.rest.tail with
          | nil => rw [hr] at ht; cases ht
          | cons c r => rfl
    · obtain ⟨-, hno⟩ := sign_no h41 (by decide) hs
      have hm : moreP s = true := by unfold moreP; rw [ho]; simpa using h41
      rw [listGo, if_pos hm]
      by_cases hl : l = []
      · subst hl
        have N := lit_sim signs ho hs
        have eR : roundP (elP signs) [] s = ([(elP signs s).1], (elP signs s).2) := by unfold roundP; simp
        rw [eR]
        unfold SimT at N
        have eI : (tokP s.rest).bind (itemsT signs (g + 1) []) = ((tokP s.rest).bind (litT signs)).bind fun p => itemsT signs g [p.1] p.2 := by
          cases ht : tokP s.rest with
          | none => rfl
          | some ts =>
            cases ts with
            | nil => rfl
            | cons x ts =>
              have := hno x ts ht
              show itemsT signs (g + 1) [] (x :: ts) = _
              rw [itemsT, if_neg this]
              simp only [if_true]
              show _ = (litT signs (x :: ts)).bind _
              cases litT signs (x :: ts) <;> rfl
        rw [eI]
        cases hq : (elP signs s).2.ok with
        | false =>
          rw [list_stuck _ _ _ hq]
          rw [if_neg (by rw [hq]; simp)] at N
          rw [N]; rfl
        | true =>
          rw [if_pos hq] at N
          obtain ⟨n1, n2, n3⟩ := N
          rw [ih _ _ _ g (by omega) hq n1 (by omega) (by omega), n3]
          cases tokP (elP signs s).2.rest <;> rfl
      · have hlp : 0 < l.length := List.length_pos_iff.2 hl
        have eR : roundP (elP signs) l s = (l ++ [(elP signs (needP 44 s)).1], (elP signs (needP 44 s)).2) := by unfold roundP; simp only [if_pos hlp]
        rw [eR]
        by_cases h44 : s.rest.head? = some 44
        · obtain ⟨e1, e2, e3⟩ := sign_yes h44 (by decide)
          have en : needP 44 s = ⟨sp s.rest.tail, true⟩ := by unfold needP; rw [e1, ho]; rfl
          rw [en]
          have N := lit_sim signs (s := ⟨sp s.rest.tail, true⟩) rfl (sp_sp _)
          unfold SimT at N
          have eI : (tokP s.rest).bind (itemsT signs (g + 1) l) = ((tokP (sp s.rest.tail)).bind (litT signs)).bind fun p => itemsT signs g (l ++ [p.1]) p.2 := by
            rw [e2]
            cases ht : tokP (sp s.rest.tail) with
            | none => rfl
            | some ts =>
              show itemsT signs (g + 1) l (⟨[], 0, 44⟩ :: ts) = (litT signs ts).bind _
              rw [itemsT, if_neg (by decide)]
              simp only [if_neg hl, if_true]
              cases litT signs ts <;> rfl
          rw [eI]
          generalize hqq : elP signs ⟨sp s.rest.tail, true⟩ = q at N ⊢
          cases hq : q.2.ok with
          | false =>
            rw [list_stuck _ _ _ hq]
            rw [if_neg (by rw [hq]; simp)] at N
            simp only at N
            rw [N]; rfl
          | true =>
            rw [if_pos hq] at N
            obtain ⟨n1, n2, n3⟩ := N
            simp only at n2 n3
            rw [ih _ _ _ g (by omega) hq n1 (by omega) (by omega), n3]
            cases tokP q.2.rest <;> rfl
        · obtain ⟨e1, e2⟩ := sign_no h44 (by decide) hs
          have en : (needP 44 s).ok = false := by unfold needP; rw [e1]; rfl
          rw [list_stuck _ _ _ (el_stuck signs en)]
          cases ht : tokP s.rest with
          | none => rfl
          | some ts =>
            cases ts with
            | nil => rfl
            | cons x ts =>
              have h1 := hno x ts ht
              have h2 := e2 x ts ht
              show none = itemsT signs (g + 1) l (x :: ts)
              rw [itemsT, if_neg h1]
              simp only [if_neg hl, if_neg h2]

theorem tok_facts : ∀ (n : Nat) (s : Bs) (ts : List Tok), s.length ≤ n → tokP s = some ts → ts.length ≤ s.length ∧ ∀ x ∈ ts, x.byte ≠ 0 → x.n = 0 := by
  intro n
  induction n with
  | zero =>
    intro s ts hn h
    have hs : s = [] := List.eq_nil_of_length_eq_zero (by omega)
    subst hs
    injection h with h
    subst h
    exact ⟨Nat.le_refl _, fun x hx => by cases hx⟩
  | succ n ih =>
    intro s ts hn h
    cases s with
    | nil =>
      injection h with h
      subst h
      exact ⟨Nat.le_refl _, fun x hx => by cases hx⟩
    | cons c r =>
      simp only [List.length_cons] at hn
      have key : ∀ (q : Bs) (y : Tok), q.length ≤ r.length → (y.byte ≠ 0 → y.n = 0) → (tokP q).map (fun ts => y :: ts) = some ts → ts.length ≤ r.length + 1 ∧ ∀ x ∈ ts, x.byte ≠ 0 → x.n = 0 := fun q y hq hy he => by
        obtain ⟨a, ha, e⟩ := Option.map_eq_some_iff.1 he
        obtain ⟨k1, k2⟩ := ih q a (by omega) ha
        subst e
        refine ⟨by simp; omega, fun x hx => ?_⟩
        rcases List.mem_cons.1 hx with rfl | hx
        · exact hy
        · exact k2 x hx
      rw [tok_cons] at h
      split at h
      · obtain ⟨k1, k2⟩ := ih r ts (by omega) h
        exact ⟨by simp; omega, k2⟩
      · split at h
        · exact key _ _ (dropWhile_len _ _) (fun hb => absurd rfl hb) h
        · split at h
          · split at h
            · cases h
            · exact key _ _ (dropWhile_len _ _) (fun hb => absurd rfl hb) h
          · split at h
            · exact key _ _ (Nat.le_refl _) (fun _ => rfl) h
            · cases h
theorem litT_len {signs : Bool} {ts : List Tok} {p : Int × List Tok} (h : litT signs ts = some p) : p.2.length < ts.length := by
  have hn : ∀ {ts : List Tok} {p : Int × List Tok}, numT ts = some p → p.2.length < ts.length := fun {ts p} h => by
    cases ts with
    | nil => cases h
    | cons x r =>
      rw [numT_cons] at h
      split at h
      · cases h
      · injection h with h; subst h; simp
  cases ts with
  | nil => cases h
  | cons x r =>
    rw [litT_cons] at h
    split at h
    · obtain ⟨q, hq, e⟩ := Option.map_eq_some_iff.1 h
      have := hn hq
      subst e
      simp only [List.length_cons]; omega
    · exact hn h
theorem items_fuel (signs : Bool) : ∀ (g g' : Nat) (l : List Int) (ts : List Tok), ts.length + 1 ≤ g → ts.length + 1 ≤ g' → itemsT signs g l ts = itemsT signs g' l ts
  | 0, _, _, _, h, _ => by omega
  | _ + 1, 0, _, _, _, h => by omega
  | g + 1, g' + 1, l, [], _, _ => rfl
  | g + 1, g' + 1, l, x :: r, h, h' => by
    simp only [List.length_cons] at h h'
    have step : ∀ q : List Tok, q.length ≤ r.length + 1 → (match litT signs q with | none => none | some p => itemsT signs g (l ++ [p.1]) p.2) = (match litT signs q with | none => none | some p => itemsT signs g' (l ++ [p.1]) p.2) := fun q hq => by
      cases hl : litT signs q with
      | none => rfl
      | some p =>
        have := litT_len hl
        exact items_fuel signs g g' _ _ (by omega) (by omega)
    unfold itemsT
    split
    · rfl
    · by_cases hl : l = []
      · simp only [if_pos hl]
        exact step _ (by simp)
      · simp only [if_neg hl]
        by_cases h44 : x.byte = 44
        · simp only [if_pos h44]
          exact step _ (by omega)
        · simp only [if_neg h44]
def listT (signs : Bool) (ts : List Tok) : Option (List Int) :=
  match ts with
  | x :: r => if x.byte = 40 then itemsT signs (r.length + 1) [] r else none
  | [] => none
theorem listT_cons (signs : Bool) (x : Tok) (r : List Tok) : listT signs (x :: r) = if x.byte = 40 then itemsT signs (r.length + 1) [] r else none := rfl
theorem list_sim (signs : Bool) {s : Scan} (ho : s.ok = true) (hs : sp s.rest = s.rest) : optS (listP (elP signs) s) = (tokP s.rest).bind (listT signs) := by
  unfold listP
  by_cases h : s.rest.head? = some 40
  · obtain ⟨e1, e2, e3⟩ := sign_yes h (by decide)
    have en : needP 40 s = ⟨sp s.rest.tail, true⟩ := by unfold needP; rw [e1, ho]; rfl
    rw [en, e2, items_sim signs _ ⟨sp s.rest.tail, true⟩ [] _ ((sp s.rest.tail).length + 1) (Nat.le_refl _) rfl (sp_sp _) (Nat.le_refl _) (Nat.le_refl _)]
    simp only
    cases ht : tokP (sp s.rest.tail) with
    | none => rfl
    | some ts =>
      have hl := (tok_facts _ _ _ (Nat.le_refl _) ht).1
      show itemsT signs _ [] ts = itemsT signs (ts.length + 1) [] ts
      exact items_fuel signs _ _ _ _ (by omega) (Nat.le_refl _)
  · obtain ⟨e1, e2⟩ := sign_no h (by decide) hs
    have en : (needP 40 s).ok = false := by unfold needP; rw [e1]; rfl
    rw [list_stuck _ _ _ en]
    cases ht : tokP s.rest with
    | none => rfl
    | some ts =>
      cases ts with
      | nil => rfl
      | cons x ts =>
        have := e2 x ts ht
        show none = listT signs (x :: ts)
        rw [listT_cons]
        rw [if_neg this]
theorem inner_items (signs : Bool) (z : Tok) (hz : z.byte = 41) (hz0 : z.n = 0) : ∀ (f g : Nat) (l : List Int) (m : List Tok), (∀ x ∈ m, x.byte ≠ 0 → x.n = 0) → m.length + 1 ≤ f → m.length + 2 ≤ g → innerT signs f l m = itemsT signs g l (m ++ [z])
  | 0, _, _, _, _, h, _ => by omega
  | _ + 1, 0, _, _, _, _, h => by omega
  | f + 1, g + 1, l, [], _, _, _ => by
    show some l = itemsT signs (g + 1) l [z]
    unfold itemsT
    rw [if_pos hz, if_pos rfl]
  | f + 1, g + 1, l, x :: r, hw, h, h' => by
    simp only [List.length_cons] at h h'
    have hwr : ∀ y ∈ r, y.byte ≠ 0 → y.n = 0 := fun y hy => hw y (by simp [hy])
    have hnum : ∀ (q : List Tok) (b : Bool), q.length ≤ r.length + 1 → (∀ y ∈ q, y.byte ≠ 0 → y.n = 0) →
        (match q with | [] => none | y :: ys => if y.n = 0 then none else innerT signs f (l ++ [if b = true then -(y.n : Int) else (y.n : Int)]) ys) =
        (match numT (q ++ [z]) with | none => none | some p => itemsT signs g (l ++ [if b = true then -p.1 else p.1]) p.2) := fun q b hq hwq => by
      cases q with
      | nil => simp [numT, hz0]
      | cons y ys =>
        simp only [List.cons_append, numT]
        split
        · rfl
        · simp only [List.length_cons] at hq
          exact inner_items signs z hz hz0 f g _ ys (fun u hu => hwq u (by simp [hu])) (by omega) (by omega)
    have helem : ∀ (q : List Tok), q.length ≤ r.length + 1 → (∀ y ∈ q, y.byte ≠ 0 → y.n = 0) →
        (let neg := signs && (match q with | x :: _ => x.byte == 45 | [] => false)
         let r2 := if neg = true then q.tail else q
         match r2 with | [] => none | y :: ys => if y.n = 0 then none else innerT signs f (l ++ [if neg = true then -(y.n : Int) else (y.n : Int)]) ys) =
        (match litT signs (q ++ [z]) with | none => none | some p => itemsT signs g (l ++ [p.1]) p.2) := fun q hq hwq => by
      cases q with
      | nil =>
        have e : litT signs ([] ++ [z]) = none := by
          show litT signs [z] = none
          rw [litT_cons]
          rw [if_neg (by rw [hz]; simp)]
          simp [numT, hz0]
        rw [e]
        cases signs <;> rfl
      | cons y ys =>
        by_cases hn : signs = true ∧ y.byte = 45
        · obtain ⟨h1, h2⟩ := hn
          subst h1
          have e : litT true (y :: ys ++ [z]) = (numT (ys ++ [z])).map fun p => (-p.1, p.2) := by
            show litT true (y :: (ys ++ [z])) = _
            rw [litT_cons]
            rw [if_pos ⟨rfl, h2⟩]
          rw [e]
          simp only [List.length_cons] at hq
          have := hnum ys true (by omega) (fun u hu => hwq u (by simp [hu]))
          simp only [h2, beq_self_eq_true, Bool.and_self, if_true, List.tail_cons] at this ⊢
          rw [this]
          cases numT (ys ++ [z]) <;> rfl
        · have e : litT signs (y :: ys ++ [z]) = numT (y :: ys ++ [z]) := by
            show litT signs (y :: (ys ++ [z])) = _
            rw [litT_cons]
            rw [if_neg hn]; rfl
          rw [e]
          have hneg : (signs && (y.byte == 45)) = false := by
            cases signs with
            | false => rfl
            | true => simp only [Bool.true_and, beq_eq_false_iff_ne]; exact fun h => hn ⟨rfl, h⟩
          have := hnum (y :: ys) false hq hwq
          simp only [hneg, Bool.false_eq_true, if_false] at this ⊢
          exact this
    unfold innerT
    show _ = itemsT signs (g + 1) l (x :: (r ++ [z]))
    unfold itemsT
    by_cases h41 : x.byte = 41
    · rw [if_pos h41, if_neg (show ¬ (r ++ [z] = []) by simp)]
      have hx0 : x.n = 0 := hw x (by simp) (by rw [h41]; decide)
      by_cases hl : l = []
      · simp only [if_pos hl, h41]
        have hne : ((41 : UInt8) == 45) = false := by decide
        simp [hne, hx0]
      · simp only [if_neg hl, h41]
        simp
    · rw [if_neg h41]
      by_cases hl : l = []
      · simp only [if_pos hl]
        exact helem (x :: r) (by simp) hw
      · simp only [if_neg hl]
        by_cases h44 : x.byte = 44
        · simp only [if_pos h44]
          exact helem r (by omega) hwr
        · simp only [if_neg h44]
theorem items_last (signs : Bool) : ∀ (g : Nat) (l : List Int) (ts : List Tok) (r : List Int), itemsT signs g l ts = some r → ts.getLast?.map (·.byte) = some 41
  | 0, _, _, _, h => by cases h
  | _ + 1, _, [], _, h => by cases h
  | g + 1, l, x :: ts, r, h => by
    have hsuf : ∀ {q : List Tok} {p : Int × List Tok}, litT signs q = some p → ∃ a, q = a ++ p.2 := fun {q p} hq => by
      have hn : ∀ {q : List Tok} {p : Int × List Tok}, numT q = some p → ∃ a, q = a ++ p.2 := fun {q p} h => by
        cases q with
        | nil => cases h
        | cons y ys =>
          rw [numT_cons] at h
          split at h
          · cases h
          · injection h with h; subst h; exact ⟨[y], rfl⟩
      cases q with
      | nil => cases hq
      | cons y ys =>
        rw [litT_cons] at hq
        split at hq
        · obtain ⟨p', hp', e⟩ := Option.map_eq_some_iff.1 hq
          obtain ⟨a, ha⟩ := hn hp'
          subst e
          exact ⟨y :: a, by rw [ha]; rfl⟩
        · exact hn hq
    have hrec : ∀ {q : List Tok} {a : List Tok}, x :: ts = a ++ q → (match litT signs q with | none => none | some p => itemsT signs g (l ++ [p.1]) p.2) = some r → (x :: ts).getLast?.map (·.byte) = some 41 := fun {q a} hq hm => by
      cases hl : litT signs q with
      | none => rw [hl] at hm; cases hm
      | some p =>
        rw [hl] at hm
        obtain ⟨b, hb⟩ := hsuf hl
        have := items_last signs g _ _ _ hm
        rw [hq, hb, ← List.append_assoc, List.getLast?_append]
        cases hp : p.2.getLast? with
        | none => rw [hp] at this; cases this
        | some y => rw [hp] at this; simpa using this
    unfold itemsT at h
    by_cases h41 : x.byte = 41
    · rw [if_pos h41] at h
      by_cases hts : ts = []
      · subst hts; simp [h41]
      · rw [if_neg hts] at h; cases h
    · rw [if_neg h41] at h
      by_cases hl : l = []
      · simp only [if_pos hl] at h
        exact hrec (a := []) rfl h
      · simp only [if_neg hl] at h
        by_cases h44 : x.byte = 44
        · simp only [if_pos h44] at h
          exact hrec (a := [x]) rfl h
        · simp only [if_neg h44] at h
          cases h
theorem literalsT_cons (signs : Bool) (x : Tok) (r : List Tok) : literalsT (x :: r) signs = if r = [] then none else if x.byte ≠ 40 then none else if (r.getLast?.map (·.byte)) ≠ some 41 then none else innerT signs r.length [] r.dropLast := rfl
theorem lits_list (signs : Bool) {ts : List Tok} (hw : ∀ x ∈ ts, x.byte ≠ 0 → x.n = 0) : literalsT ts signs = listT signs ts := by
  cases ts with
  | nil => rfl
  | cons x r =>
    rw [listT_cons, literalsT_cons]
    by_cases hr : r = []
    · subst hr
      rw [if_pos rfl]
      split <;> rfl
    · rw [if_neg hr]
      by_cases h40 : x.byte = 40
      · rw [if_neg (by simpa using h40), if_pos h40]
        by_cases hl : r.getLast?.map (·.byte) = some 41
        · rw [if_neg (by simpa using hl)]
          obtain ⟨z, hz, hz41⟩ := Option.map_eq_some_iff.1 hl
          obtain ⟨m, rfl⟩ := List.getLast?_eq_some_iff.1 hz
          have hz0 : z.n = 0 := hw z (by simp) (by rw [hz41]; decide)
          rw [List.dropLast_concat]
          exact inner_items signs z hz41 hz0 _ _ [] m (fun y hy => hw y (by simp [hy])) (by simp) (by simp)
        · rw [if_pos hl]
          cases hi : itemsT signs (r.length + 1) [] r with
          | none => rfl
          | some q => exact absurd (items_last signs _ _ _ _ hi) hl
      · rw [if_pos h40, if_neg h40]

theorem word_sim {s : Bs} (hs : sp s = s) : (takeP isLow s).1 = [] ∧ (takeP isLow s).2 = s ∧ (∀ x ts, tokP s = some (x :: ts) → x.word = []) ∨
    (takeP isLow s).1 ≠ [] ∧ sp (takeP isLow s).2 = (takeP isLow s).2 ∧ tokP s = (tokP (takeP isLow s).2).map fun ts => ⟨(takeP isLow s).1, 0, 0⟩ :: ts := by
  unfold takeP
  cases s with
  | nil => exact .inl ⟨rfl, rfl, fun x ts h => by cases h⟩
  | cons c r =>
    have hc := sp_head hs
    by_cases hl : isLow c = true
    · right
      simp only [List.takeWhile_cons, List.dropWhile_cons, if_pos hl]
      refine ⟨by simp, sp_sp _, ?_⟩
      rw [tok_cons, if_neg hc, if_pos hl, tok_sp]
    · left
      simp only [List.takeWhile_cons, List.dropWhile_cons, if_neg hl]
      refine ⟨trivial, hs, fun x ts h => ?_⟩
      exact (first_tok hc h).word (by simpa using hl)
theorem listP_stuck {el : Scan → Int × Scan} {s : Scan} (h : s.ok = false) : (listP el s).2.ok = false := by
  have := list_stuck el ((needP 40 s).rest.length + 2) [] (need_stuck (c := 40) h)
  unfold listP
  cases hq : (listE (listGo el ((needP 40 s).rest.length + 2) [] (needP 40 s))).2.ok with
  | false => rfl
  | true => unfold optS at this; rw [if_pos hq] at this; cases this
theorem kind_nil : kindP [] = 0 := by decide
theorem word_nil : wordP [] = 0 := by decide
theorem parseT_cons (a b : Tok) (r : List Tok) : parseT (a :: b :: r) = if 0 < a.n ∧ b.byte = 61 ∧ r ≠ [] then
      match r with
      | [] => .bad
      | w :: q => match literalsT q true with
        | none => .bad
        | some l => if kindP w.word = 0 then .bad else .gate a.n (kindP w.word) l
    else match literalsT (b :: r) (decide (a.word = wOutput)) with
      | none => .bad
      | some l =>
        if wordP a.word = 4 then (match l with | [x] => .out x | _ => .bad)
        else if wordP a.word = 0 then .bad else .block (wordP a.word) l := rfl
theorem parse_nil (a : Tok) (ts : List Tok) (ha : a.n = 0) (hw : a.word = []) : parseT (a :: ts) = .bad := by
  cases ts with
  | nil => rfl
  | cons b r =>
    rw [parseT_cons]
    rw [if_neg (by rw [ha]; simp), hw, word_nil]
    cases literalsT (b :: r) (decide (([] : Bs) = wOutput)) <;> rfl
theorem wf_tail {x : Tok} {ts : List Tok} (h : ∀ y ∈ x :: ts, y.byte ≠ 0 → y.n = 0) : ∀ y ∈ ts, y.byte ≠ 0 → y.n = 0 := fun y hy => h y (by simp [hy])
def gateRest (ts : List Tok) : Option (Nat × List Int) :=
  match ts with
  | b :: w :: q => if b.byte = 61 then (match listT true q with | some l => if kindP w.word = 0 then none else some (kindP w.word, l) | none => none) else none
  | _ => none
theorem gateRest_cons (b w : Tok) (q : List Tok) : gateRest (b :: w :: q) = if b.byte = 61 then (match listT true q with | some l => if kindP w.word = 0 then none else some (kindP w.word, l) | none => none) else none := rfl
theorem rest_sim {s : Scan} (ho : s.ok = true) (hs : sp s.rest = s.rest) :
    (if (listP literalP ⟨(takeP isLow (needP 61 s).rest).2, (needP 61 s).ok⟩).2.ok = true ∧ kindP (takeP isLow (needP 61 s).rest).1 ≠ 0 then
      some (kindP (takeP isLow (needP 61 s).rest).1, (listP literalP ⟨(takeP isLow (needP 61 s).rest).2, (needP 61 s).ok⟩).1) else none) = (tokP s.rest).bind gateRest := by
  by_cases h : s.rest.head? = some 61
  · obtain ⟨e1, e2, e3⟩ := sign_yes h (by decide)
    have en : needP 61 s = ⟨sp s.rest.tail, true⟩ := by unfold needP; rw [e1, ho]; rfl
    rw [en, e2]
    simp only
    have hs2 := sp_sp s.rest.tail
    generalize sp s.rest.tail = u at hs2 ⊢
    rcases word_sim hs2 with ⟨w1, w2, w3⟩ | ⟨w1, w2, w3⟩
    · rw [w1, if_neg (by rw [kind_nil]; simp)]
      cases ht : tokP u with
      | none => rfl
      | some ts =>
        cases ts with
        | nil => rfl
        | cons w q =>
          have := w3 w q ht
          show none = gateRest (⟨[], 0, 61⟩ :: w :: q)
          rw [gateRest_cons]
          rw [if_pos rfl, this, kind_nil]
          cases listT true q <;> rfl
    · have L := list_sim true (s := ⟨(takeP isLow u).2, true⟩) rfl w2
      rw [show elP true = literalP from rfl] at L
      rw [w3]
      simp only at L
      have eg : (((tokP (takeP isLow u).2).map fun ts => (⟨(takeP isLow u).1, 0, 0⟩ : Tok) :: ts).map fun ts => (⟨[], 0, 61⟩ : Tok) :: ts).bind gateRest = ((tokP (takeP isLow u).2).bind (listT true)).bind fun l => if kindP (takeP isLow u).1 = 0 then none else some (kindP (takeP isLow u).1, l) := by
        cases tokP (takeP isLow u).2 with
        | none => rfl
        | some q =>
          show gateRest (⟨[], 0, 61⟩ :: ⟨(takeP isLow u).1, 0, 0⟩ :: q) = _
          rw [gateRest_cons]
          rw [if_pos rfl]
          show _ = (listT true q).bind _
          cases listT true q <;> rfl
      rw [eg, ← L]
      unfold optS
      cases hk : (listP literalP ⟨(takeP isLow u).2, true⟩).2.ok with
      | false => simp
      | true =>
        by_cases hz : kindP (takeP isLow u).1 = 0
        · simp [hz]
        · simp [hz]
  · obtain ⟨e1, e2⟩ := sign_no h (by decide) hs
    have en : (needP 61 s).ok = false := by unfold needP; rw [e1]; rfl
    have e3 : (listP literalP ⟨(takeP isLow (needP 61 s).rest).2, (needP 61 s).ok⟩).2.ok = false := listP_stuck en
    rw [if_neg (by rw [e3]; simp)]
    cases ht : tokP s.rest with
    | none => rfl
    | some ts =>
      cases ts with
      | nil => rfl
      | cons x ts =>
        have := e2 x ts ht
        show none = gateRest (x :: ts)
        cases ts with
        | nil => rfl
        | cons w q => rw [gateRest_cons]; rw [if_neg this]
theorem parse_gate {a : Tok} (ha : a.n ≠ 0) (hw : a.word = []) (q : List Tok) (hq : ∀ y ∈ q, y.byte ≠ 0 → y.n = 0) :
    parseT (a :: q) = match gateRest q with | some p => .gate a.n p.1 p.2 | none => .bad := by
  have other : ∀ b r, (match literalsT (b :: r) (decide (a.word = wOutput)) with
      | none => PLine.bad
      | some l => if wordP a.word = 4 then (match l with | [x] => .out x | _ => .bad) else if wordP a.word = 0 then .bad else .block (wordP a.word) l) = .bad := fun b r => by
    rw [hw, word_nil]
    cases literalsT (b :: r) (decide (([] : Bs) = wOutput)) <;> rfl
  cases q with
  | nil => rfl
  | cons b r =>
    rw [parseT_cons]
    cases r with
    | nil =>
      rw [if_neg (by simp)]
      exact other b []
    | cons w q =>
      by_cases hb : b.byte = 61
      · rw [if_pos ⟨by omega, hb, by simp⟩]
        rw [gateRest_cons]
        rw [if_pos hb]
        simp only
        rw [lits_list true (fun y hy => hq y (by simp [hy]))]
        cases listT true q with
        | none => rfl
        | some l =>
          simp only
          by_cases hk : kindP w.word = 0
          · rw [if_pos hk, if_pos hk]
          · rw [if_neg hk, if_neg hk]
      · rw [if_neg (by simp [hb])]
        rw [gateRest_cons]
        rw [if_neg hb]
        exact other b (w :: q)
theorem scan_tok (t : Bs) : scanL t = tokL t := by
  unfold scanL tokL
  rw [← tok_sp t]
  have hs := sp_sp t
  generalize sp t = s at hs ⊢
  simp only
  by_cases hd : (s.head?.any isDig) = true
  · rw [if_pos hd]
    have hword : ∀ a ts, tokP s = some (a :: ts) → a.word = [] := fun a ts ht => by
      cases s with
      | nil => cases hd
      | cons c r =>
        have hdc : isDig c = true := by simpa using hd
        exact (first_tok (sp_head hs) ht).word (low_dig hdc)
    have N := num_sim (s := ⟨s, true⟩) rfl hs
    unfold gateL
    unfold SimT at N
    simp only at N ⊢
    generalize numberP ⟨s, true⟩ = v at N ⊢
    cases hv : v.2.ok with
    | false =>
      rw [if_neg (by rw [hv]; simp)] at N
      have e3 : (listP literalP ⟨(takeP isLow (needP 61 v.2).rest).2, (needP 61 v.2).ok⟩).2.ok = false := listP_stuck (need_stuck hv)
      rw [if_neg (by rw [e3]; simp)]
      cases ht : tokP s with
      | none => rfl
      | some ts =>
        rw [ht] at N
        cases ts with
        | nil => rfl
        | cons a ts =>
          have ha : a.n = 0 := by
            have N' : numT (a :: ts) = none := N
            rw [numT_cons] at N'
            split at N'
            · assumption
            · cases N'
          exact (parse_nil a ts ha (hword a ts ht)).symm
    | true =>
      rw [if_pos hv] at N
      obtain ⟨n1, n2, n3⟩ := N
      have R := rest_sim hv n1
      have eL : (if (listP literalP ⟨(takeP isLow (needP 61 v.2).rest).2, (needP 61 v.2).ok⟩).2.ok = true ∧ kindP (takeP isLow (needP 61 v.2).rest).1 ≠ 0 then
          PLine.gate v.1 (kindP (takeP isLow (needP 61 v.2).rest).1) (listP literalP ⟨(takeP isLow (needP 61 v.2).rest).2, (needP 61 v.2).ok⟩).1 else .bad) =
          match (tokP v.2.rest).bind gateRest with | some p => .gate v.1 p.1 p.2 | none => .bad := by
        rw [← R]
        split <;> rfl
      rw [eL]
      cases ht : tokP s with
      | none =>
        rw [ht] at n3
        cases hq : tokP v.2.rest with
        | none => rfl
        | some q => rw [hq] at n3; cases n3
      | some ts =>
        rw [ht] at n3
        have n3' : numT ts = (tokP v.2.rest).map fun ts => (v.1, ts) := n3
        cases ts with
        | nil =>
          cases hq : tokP v.2.rest with
          | none => rfl
          | some q => rw [hq] at n3'; cases n3'
        | cons a ts =>
          rw [numT_cons] at n3'
          by_cases ha : a.n = 0
          · rw [if_pos ha] at n3'
            show _ = parseT (a :: ts)
            rw [parse_nil a ts ha (hword a ts ht)]
            cases hq : tokP v.2.rest with
            | none => rfl
            | some q => rw [hq] at n3'; cases n3'
          · rw [if_neg ha] at n3'
            cases hq : tokP v.2.rest with
            | none => rw [hq] at n3'; cases n3'
            | some q =>
              rw [hq] at n3'
              injection n3' with e
              injection e with e1 e2
              subst e2
              show _ = parseT (a :: ts)
              rw [parse_gate ha (hword a ts ht) ts (wf_tail (tok_facts _ _ _ (Nat.le_refl _) ht).2), ← e1]
              rfl
  · rw [if_neg hd]
    have hn0 : ∀ a ts, tokP s = some (a :: ts) → a.n = 0 := fun a ts ht => by
      cases s with
      | nil => cases ht
      | cons c r =>
        refine (first_tok (sp_head hs) ht).n0 (fun h => hd ?_)
        simp only [List.head?_cons, Option.any_some]
        exact isDig_iff.2 ⟨by omega, h.2⟩
    unfold otherL
    simp only
    rcases word_sim hs with ⟨w1, w2, w3⟩ | ⟨w1, w2, w3⟩
    · rw [w1, word_nil]
      simp only [if_true]
      rw [if_neg (by decide)]
      cases ht : tokP s with
      | none => rfl
      | some ts =>
        cases ts with
        | nil => rfl
        | cons a ts => exact (parse_nil a ts (hn0 a ts ht) (w3 a ts ht)).symm
    · have Lt := list_sim true (s := ⟨(takeP isLow s).2, true⟩) rfl w2
      have Lf := list_sim false (s := ⟨(takeP isLow s).2, true⟩) rfl w2
      rw [show elP true = literalP from rfl] at Lt
      rw [show elP false = numberP from rfl] at Lf
      simp only at Lt Lf
      rw [w3]
      have bad : ∀ (x : PLine), (tokP (takeP isLow s).2 = none → x = .bad) → (∀ q, tokP (takeP isLow s).2 = some q → x = parseT (⟨(takeP isLow s).1, 0, 0⟩ :: q)) →
          x = match ((tokP (takeP isLow s).2).map fun ts => (⟨(takeP isLow s).1, 0, 0⟩ : Tok) :: ts) with | none => .bad | some ts => parseT ts := fun x h1 h2 => by
        cases hq : tokP (takeP isLow s).2 with
        | none => exact h1 hq
        | some q => exact h2 q hq
      have pq : ∀ q, tokP (takeP isLow s).2 = some q → parseT (⟨(takeP isLow s).1, 0, 0⟩ :: q) = match listT (decide ((takeP isLow s).1 = wOutput)) q with
          | none => .bad
          | some l => if wordP (takeP isLow s).1 = 4 then (match l with | [x] => .out x | _ => .bad) else if wordP (takeP isLow s).1 = 0 then .bad else .block (wordP (takeP isLow s).1) l := fun q hq => by
        have hwf := (tok_facts _ _ _ (Nat.le_refl _) hq).2
        cases q with
        | nil => rfl
        | cons b r =>
          rw [parseT_cons]
          rw [if_neg (by simp), lits_list _ hwf]
      generalize (takeP isLow s).1 = w at bad pq ⊢
      generalize (takeP isLow s).2 = u at bad pq Lt Lf ⊢
      have hw4 : wordP w = 4 ↔ w = wOutput := by
        constructor
        · intro h
          unfold wordP at h
          split at h
          · cases h
          · split at h
            · cases h
            · split at h
              · cases h
              · split at h
                · assumption
                · cases h
        · rintro rfl; decide
      refine bad _ (fun hq => ?_) (fun q hq => ?_)
      · rw [hq] at Lt Lf
        by_cases h4 : wordP w = 4
        · rw [if_pos h4]
          generalize listP literalP ⟨u, true⟩ = l at Lt ⊢
          unfold optS at Lt
          cases hl : l.2.ok with
          | true => rw [if_pos hl] at Lt; cases Lt
          | false =>
            split
            · simp
            · rfl
        · rw [if_neg h4]
          split
          · rfl
          · generalize listP numberP ⟨u, true⟩ = l at Lf ⊢
            unfold optS at Lf
            cases hl : l.2.ok with
            | true => rw [if_pos hl] at Lf; cases Lf
            | false => simp
      · rw [pq q hq]
        rw [hq] at Lt Lf
        by_cases h4 : wordP w = 4
        · rw [if_pos h4, decide_eq_true (hw4.1 h4)]
          have Lt' : optS (listP literalP ⟨u, true⟩) = listT true q := Lt
          rw [← Lt']
          generalize listP literalP ⟨u, true⟩ = l
          unfold optS
          cases hl : l.2.ok with
          | true =>
            simp only [h4, if_true]
            generalize l.1 = ls
            rcases ls with _ | ⟨x, _ | ⟨y, ys⟩⟩ <;> rfl
          | false =>
            simp only [Bool.false_eq_true, if_false]
            split <;> rfl
        · rw [if_neg h4, decide_eq_false (fun h => h4 (hw4.2 h))]
          have Lf' : optS (listP numberP ⟨u, true⟩) = listT false q := Lf
          rw [← Lf']
          generalize listP numberP ⟨u, true⟩ = l
          unfold optS
          cases hl : l.2.ok with
          | true =>
            simp only [if_true, if_neg h4]
          | false =>
            simp only [Bool.false_eq_true, if_false]
            split <;> rfl
end Go.Proofs.YtnlobmepajakcaaGreatDoor
namespace Go.Proofs.YtnlobmepajakcaaGreatDoor
open Go.RowKit Go.Shelf

theorem tok_space (r : Bs) : tokP (32 :: r) = tokP r := by rw [tok_cons, if_pos rfl]
def tk (c : UInt8) : Tok := ⟨[], 0, c⟩
def LitOk (x : Int) : Prop := x ≠ 0 ∧ -65536 ≤ x ∧ x ≤ 65536
end Go.Proofs.YtnlobmepajakcaaGreatDoor
namespace Go.Proofs.YtnlobmepajakcaaGreatDoor
open Go.RowKit Go.Shelf

theorem kind_of_shape {k : Int} {n : Nat} (h : shapedB k n = true) : (1 ≤ k ∧ k ≤ 4) ∧ ¬ ((k = 3 ∧ n ≠ 2) ∨ (k = 4 ∧ n ≠ 3)) := by
  unfold shapedB at h
  split at h
  · omega
  · split at h
    · omega
    · split at h
      · simp at h; omega
      · split at h
        · simp at h; omega
        · cases h
end Go.Proofs.YtnlobmepajakcaaGreatDoor
