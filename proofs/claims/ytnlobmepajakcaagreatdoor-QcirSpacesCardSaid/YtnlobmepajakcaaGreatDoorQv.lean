/- Spaces around the bytes that are no letters, digits or line feeds, and blank lines and comments, change nothing in what is read but the lines of errors; the condition: the text has no byte 35. -/
import Derived.Test.YtnlobmepajakcaaGreatDoorQs
set_option linter.unusedVariables false
set_option linter.unusedSimpArgs false
namespace Go.Proofs.YtnlobmepajakcaaGreatDoor
open Go.RowKit Go.Shelf

/-- A line, and the line with spaces. -/
inductive L1 : Bs → Bs → Prop where
  | nil : L1 [] []
  | pun {c : UInt8} {a b : Nat} {l t : Bs} : isPun c = true → L1 l t → L1 (c :: l) (List.replicate a 32 ++ c :: (List.replicate b 32 ++ t))
  | other {c : UInt8} {l t : Bs} : isPun c = false → c ≠ 10 → L1 l t → L1 (c :: l) (c :: t)
/-- The lines that are put in behind a line feed. -/
def insX (k : Nat) : Bs := if k = 0 then [] else if k = 1 then [10] else if k = 2 then [32, 32, 10] else if k = 3 then [35, 32, 120, 32, 61, 32, 40, 10] else [35, 10, 10]
inductive SpT : Bs → Bs → Prop where
  | nil : SpT [] []
  | pun {c : UInt8} {a b : Nat} {l t : Bs} : isPun c = true → SpT l t → SpT (c :: l) (List.replicate a 32 ++ c :: (List.replicate b 32 ++ t))
  | other {c : UInt8} {l t : Bs} : isPun c = false → c ≠ 10 → SpT l t → SpT (c :: l) (c :: t)
  | feed {k : Nat} {l t : Bs} : SpT l t → SpT (10 :: l) (10 :: (insX k ++ t))

theorem pun_cases {c : UInt8} (h : isPun c = true) : c = 40 ∨ c = 41 ∨ c = 44 ∨ c = 61 ∨ c = 45 := by
  unfold isPun at h
  simp only [Bool.or_eq_true, beq_iff_eq] at h
  rcases h with (((h | h) | h) | h) | h
  · exact .inl h
  · exact .inr (.inl h)
  · exact .inr (.inr (.inl h))
  · exact .inr (.inr (.inr (.inl h)))
  · exact .inr (.inr (.inr (.inr h)))
theorem pun_ne {c : UInt8} (h : isPun c = true) : c ≠ 32 ∧ c ≠ 10 ∧ c ≠ 35 ∧ isLow c = false ∧ isDig c = false := by
  rcases pun_cases h with rfl | rfl | rfl | rfl | rfl <;> decide
theorem L1.while {p : UInt8 → Bool} (hp : ∀ c, isPun c = true → p c = false) (h32 : p 32 = false) : ∀ {l t : Bs}, L1 l t → t.takeWhile p = l.takeWhile p ∧ L1 (l.dropWhile p) (t.dropWhile p)
  | _, _, .nil => ⟨rfl, .nil⟩
  | _, _, .pun (c := c) (a := a) (b := b) (t := t) hc h => by
    have e : (List.replicate a (32 : UInt8) ++ c :: (List.replicate b 32 ++ t)).takeWhile p = [] ∧ (List.replicate a (32 : UInt8) ++ c :: (List.replicate b 32 ++ t)).dropWhile p = List.replicate a (32 : UInt8) ++ c :: (List.replicate b 32 ++ t) := by
      cases a with
      | zero => simp [List.takeWhile_cons, List.dropWhile_cons, hp c hc]
      | succ a => simp [List.replicate_succ, List.takeWhile_cons, List.dropWhile_cons, h32]
    rw [e.1, e.2, List.takeWhile_cons, List.dropWhile_cons, hp c hc]
    exact ⟨by simp, by simpa using L1.pun hc h⟩
  | _, _, .other (c := c) hc h10 h => by
    obtain ⟨k1, k2⟩ := L1.while hp h32 h
    rw [List.takeWhile_cons, List.takeWhile_cons, List.dropWhile_cons, List.dropWhile_cons]
    by_cases hq : p c = true
    · rw [if_pos hq, if_pos hq, if_pos hq, if_pos hq, k1]
      exact ⟨rfl, k2⟩
    · rw [if_neg hq, if_neg hq, if_neg hq, if_neg hq]
      exact ⟨rfl, .other hc h10 h⟩
theorem tok_spaces : ∀ (a : Nat) (t : Bs), tokP (List.replicate a 32 ++ t) = tokP t
  | 0, t => rfl
  | a + 1, t => by rw [List.replicate_succ, List.cons_append, tok_space, tok_spaces a t]
theorem L1.tok (n : Nat) : ∀ {l t : Bs}, l.length ≤ n → L1 l t → tokP t = tokP l := by
  induction n with
  | zero =>
    intro l t hn h
    have : l = [] := List.eq_nil_of_length_eq_zero (by omega)
    subst this
    cases h
    rfl
  | succ n ih =>
    intro l t hn h
    cases h with
    | nil => rfl
    | pun hc h => rw [tok_spaces, pun_tok hc, pun_tok hc, tok_spaces, ih (by simpa using hn) h]
    | @other c l t hc h10 h =>
      have hl : l.length ≤ n := by simpa using hn
      have W := h.while (p := isLow) (fun c h => (pun_ne h).2.2.2.1) (by decide)
      have D := h.while (p := isDig) (fun c h => (pun_ne h).2.2.2.2) (by decide)
      have w1 := ih (Nat.le_trans (dropWhile_len _ _) hl) W.2
      have d1 := ih (Nat.le_trans (dropWhile_len _ _) hl) D.2
      have t1 := ih hl h
      rw [tok_cons, tok_cons, W.1, D.1, w1, d1, t1]
theorem L1.line {l t : Bs} (h : L1 l t) : scanL t = scanL l := by
  rw [scan_tok, scan_tok]
  unfold tokL
  rw [h.tok _ (Nat.le_refl _)]
theorem L1.blank : ∀ {l t : Bs}, L1 l t → (∀ c ∈ l, c ≠ 35) → blankB t = blankB l
  | _, _, .nil, _ => rfl
  | _, _, .pun (c := c) (a := a) (b := b) (l := l) (t := t) hc h, h35 => by
    obtain ⟨k1, k2, k3, _⟩ := pun_ne hc
    have e1 : blankB (c :: l) = false := by unfold blankB; simp [k1, k3]
    rw [e1]
    unfold blankB
    cases a with
    | zero => simp [k1, k3]
    | succ a => simp [List.replicate_succ, k1]
  | _, _, .other (c := c) (l := l) (t := t) hc h10 h, h35 => by
    have hc35 := h35 c (by simp)
    have ih := h.blank (fun x hx => h35 x (by simp [hx]))
    have hall : (t.all fun c => c == 32) = (l.all fun c => c == 32) := L1.all h
    unfold blankB
    rw [List.head?_cons, List.head?_cons, List.all_cons, List.all_cons, hall]
where
  L1.all : ∀ {l t : Bs}, L1 l t → (t.all fun c => c == 32) = (l.all fun c => c == 32)
  | _, _, .nil => rfl
  | _, _, .pun (c := c) (a := a) (b := b) (l := l) (t := t) hc h => by
    obtain ⟨k1, _⟩ := pun_ne hc
    have k2 : (c == 32) = false := beq_eq_false_iff_ne.2 k1
    simp only [List.all_append, List.all_cons, k2, Bool.false_and, Bool.and_false]
  | _, _, .other (c := c) (l := l) (t := t) hc h10 h => by
    rw [List.all_cons, List.all_cons, L1.all h]

/-! ### Lines -/
inductive LsT : List Bs → List Bs → Prop where
  | nil : LsT [] []
  | both {l t : Bs} {ls ts : List Bs} : L1 l t → LsT ls ts → LsT (l :: ls) (t :: ts)
  | skip {t : Bs} {ls ts : List Bs} : blankB t = true → LsT ls ts → LsT ls (t :: ts)
/-- Lines whose first ones belong together. -/
def HdT : List Bs → List Bs → Prop
  | [], [] => True
  | l :: ls, t :: ts => L1 l t ∧ LsT ls ts
  | _, _ => False
theorem HdT.ls : ∀ {ls ts : List Bs}, HdT ls ts → LsT ls ts
  | [], [], _ => .nil
  | l :: ls, t :: ts, h => .both h.1 h.2
  | [], t :: ts, h => h.elim
  | l :: ls, [], h => h.elim
def consL (u : Bs) : List Bs → List Bs
  | [] => [u]
  | l :: ls => (u ++ l) :: ls
theorem split_cons (c : UInt8) (s : Bs) (h : c ≠ 10) : splitNL (c :: s) = consL [c] (splitNL s) := by
  show (if c = 10 then [] :: splitNL s else consHead c (splitNL s)) = _
  rw [if_neg h]
  cases splitNL s <;> rfl
theorem consL_app (u v : Bs) (hv : v ≠ []) (ls : List Bs) : consL u (consL v ls) = consL (u ++ v) ls := by
  cases ls <;> simp [consL]
theorem split_app : ∀ (u s : Bs), u ≠ [] → (∀ c ∈ u, c ≠ 10) → splitNL (u ++ s) = consL u (splitNL s)
  | [], s, h, _ => absurd rfl h
  | [c], s, _, h => split_cons c s (h c (by simp))
  | c :: d :: u, s, _, h => by
    rw [List.cons_append, split_cons c _ (h c (by simp)), split_app (d :: u) s (by simp) (fun x hx => h x (by simp [hx])), consL_app _ _ (by simp)]
    rfl
theorem HdT.cons {ls ts : List Bs} (h : HdT ls ts) {c : UInt8} {u : Bs} (hL : ∀ l t, L1 l t → L1 (c :: l) (u ++ t)) (hu : u ≠ []) : HdT (consL [c] ls) (consL u ts) := by
  cases ls with
  | nil => cases ts with
    | nil => exact ⟨by simpa using hL [] [] .nil, .nil⟩
    | cons t ts => exact h.elim
  | cons l ls => cases ts with
    | nil => exact h.elim
    | cons t ts => exact ⟨hL l t h.1, h.2⟩
theorem split_ins (k : Nat) (t : Bs) : ∃ bs, splitNL (insX k ++ t) = bs ++ splitNL t ∧ ∀ b ∈ bs, blankB b = true := by
  unfold insX
  split
  · exact ⟨[], rfl, fun b h => by cases h⟩
  · split
    · exact ⟨[[]], split_line [] t (by simp), by decide⟩
    · split
      · exact ⟨[[32, 32]], split_line [32, 32] t (by decide), by decide⟩
      · split
        · exact ⟨[[35, 32, 120, 32, 61, 32, 40]], split_line [35, 32, 120, 32, 61, 32, 40] t (by decide), by decide⟩
        · refine ⟨[[35], []], ?_, by decide⟩
          have e : ([35, 10, 10] : Bs) ++ t = [35] ++ 10 :: ([] ++ 10 :: t) := rfl
          rw [e, split_line [35] _ (by decide), split_line [] _ (by simp)]
          rfl
theorem skips : ∀ (bs : List Bs) {ls ts : List Bs}, (∀ b ∈ bs, blankB b = true) → LsT ls ts → LsT ls (bs ++ ts)
  | [], ls, ts, _, h => h
  | b :: bs, ls, ts, hb, h => .skip (hb b (by simp)) (skips bs (fun x hx => hb x (by simp [hx])) h)
theorem SpT.lines : ∀ {s t : Bs}, SpT s t → HdT (splitNL s) (splitNL t)
  | _, _, .nil => trivial
  | _, _, .pun (c := c) (a := a) (b := b) (l := l) (t := t) hc h => by
    obtain ⟨k1, k2, _⟩ := pun_ne hc
    have e : List.replicate a (32 : UInt8) ++ c :: (List.replicate b 32 ++ t) = (List.replicate a 32 ++ c :: List.replicate b 32) ++ t := by simp
    rw [e, split_cons c l k2, split_app _ t (by simp) (fun x hx => by
      rcases List.mem_append.1 hx with hx | hx
      · rw [(List.mem_replicate.1 hx).2]; decide
      · rcases List.mem_cons.1 hx with rfl | hx
        · exact k2
        · rw [(List.mem_replicate.1 hx).2]; decide)]
    refine h.lines.cons (fun l t hL => ?_) (by simp)
    have := L1.pun (a := a) (b := b) hc hL
    simpa using this
  | _, _, .other (c := c) hc h10 h => by
    rw [split_cons c _ h10, split_cons c _ h10]
    exact h.lines.cons (fun l t hL => .other hc h10 hL) (by simp)
  | _, _, .feed (k := k) (l := l) (t := t) h => by
    obtain ⟨bs, e, hb⟩ := split_ins k t
    have e1 : splitNL (10 :: l) = [] :: splitNL l := rfl
    have e2 : splitNL (10 :: (insX k ++ t)) = [] :: splitNL (insX k ++ t) := rfl
    rw [e1, e2, e]
    exact ⟨.nil, skips bs hb h.lines.ls⟩

/-! ### The reader -/
structure SimR (a b : RS) : Prop where
  pre : a.pre = b.pre
  gates : a.gates = b.gates
  out : a.out = b.out
  seen : a.seen = b.seen
  vars : a.vars = b.vars
  lits : a.lits = b.lits
  begun : a.begun = b.begun
  done : a.done = b.done
  at_ : a.at_.length = b.at_.length
theorem SimR.refl (a : RS) : SimR a a := ⟨rfl, rfl, rfl, rfl, rfl, rfl, rfl, rfl, rfl⟩
theorem SimR.add {a b : RS} (h : SimR a b) (n m : Nat) (p : PLine) : (addL a n p).1 = (addL b m p).1 ∧ SimR (addL a n p).2 (addL b m p).2 := by
  obtain ⟨p1, g1, o1, s1, v1, l1, b1, d1, t1, u1⟩ := a
  obtain ⟨p2, g2, o2, s2, v2, l2, b2, d2, t2, u2⟩ := b
  obtain ⟨h1, h2, h3, h4, h5, h6, h7, h8, h9⟩ := h
  simp only at h1 h2 h3 h4 h5 h6 h7 h8 h9
  subst h1 h2 h3 h4 h5 h6 h7 h8
  cases p with
  | bad => exact ⟨rfl, rfl, rfl, rfl, rfl, rfl, rfl, rfl, rfl, h9⟩
  | gate v k l =>
    rw [addL, addL]
    simp only
    split
    · exact ⟨rfl, rfl, rfl, rfl, rfl, rfl, rfl, rfl, rfl, h9⟩
    · split
      · exact ⟨rfl, rfl, rfl, rfl, rfl, rfl, rfl, rfl, rfl, h9⟩
      · split
        · exact ⟨rfl, rfl, rfl, rfl, rfl, rfl, rfl, rfl, rfl, h9⟩
        · split
          · exact ⟨rfl, rfl, rfl, rfl, rfl, rfl, rfl, rfl, rfl, h9⟩
          · exact ⟨rfl, rfl, rfl, rfl, rfl, rfl, rfl, rfl, rfl, by simp [h9]⟩
  | out x =>
    rw [addL, addL]
    simp only
    split
    · exact ⟨rfl, rfl, rfl, rfl, rfl, rfl, rfl, rfl, rfl, h9⟩
    · exact ⟨rfl, rfl, rfl, rfl, rfl, rfl, rfl, rfl, rfl, h9⟩
  | block w l =>
    rw [addL, addL]
    simp only
    split
    · exact ⟨rfl, rfl, rfl, rfl, rfl, rfl, rfl, rfl, rfl, h9⟩
    · split
      · exact ⟨rfl, rfl, rfl, rfl, rfl, rfl, rfl, rfl, rfl, h9⟩
      · split
        · exact ⟨rfl, rfl, rfl, rfl, rfl, rfl, rfl, rfl, rfl, h9⟩
        · exact ⟨rfl, rfl, rfl, rfl, rfl, rfl, rfl, rfl, rfl, h9⟩
theorem LsT.read : ∀ {ls ts : List Bs}, LsT ls ts → (∀ l ∈ ls, ∀ c ∈ l, c ≠ 35) → ∀ {a b : RS}, SimR a b → ∀ (n m : Nat),
    (linesP scanL a n ls).1.1 = (linesP scanL b m ts).1.1 ∧ SimR (linesP scanL a n ls).2 (linesP scanL b m ts).2
  | _, _, .nil, _, a, b, h, n, m => ⟨rfl, h⟩
  | _, _, .skip (t := t) (ls := ls) (ts := ts) hb hl, h35, a, b, h, n, m => by
    have e : linesP scanL b m (t :: ts) = linesP scanL b (m + 1) ts := by rw [linesP, if_pos hb]
    rw [e]
    exact LsT.read hl h35 h n (m + 1)
  | _, _, .both (l := l) (t := t) (ls := ls) (ts := ts) h1 hl, h35, a, b, h, n, m => by
    have h35' : ∀ x ∈ ls, ∀ c ∈ x, c ≠ 35 := fun x hx => h35 x (by simp [hx])
    rw [linesP, linesP, h1.blank (h35 l (by simp)), h1.line]
    by_cases hb : blankB l = true
    · rw [if_pos hb, if_pos hb]
      exact LsT.read hl h35' h (n + 1) (m + 1)
    · rw [if_neg hb, if_neg hb]
      have ha := h.add n m (scanL l)
      simp only
      by_cases h0 : (addL a n (scanL l)).1 = 0
      · have h0' := h0
        rw [ha.1] at h0'
        rw [if_pos h0, if_pos h0']
        exact LsT.read hl h35' ha.2 (n + 1) (m + 1)
      · have h0' := h0
        rw [ha.1] at h0'
        rw [if_neg h0, if_neg h0']
        exact ⟨ha.1, h⟩
theorem stray_sim (S : Nat → Bool) : ∀ (gs : List PGate) (ns ms : List Nat), ns.length = ms.length → (strayP S gs ns).isSome = (strayP S gs ms).isSome
  | [], ns, ms, h => by cases ns <;> cases ms <;> rfl
  | g :: gs, [], [], h => rfl
  | g :: gs, n :: ns, [], h => by simp at h
  | g :: gs, [], m :: ms, h => by simp at h
  | g :: gs, n :: ns, m :: ms, h => by
    rw [strayP, strayP]
    split
    · rfl
    · exact stray_sim S gs ns ms (by simpa using h)
theorem SimR.end {a b : RS} (h : SimR a b) : (endR a).1 = (endR b).1 ∧ (endR a).2.2 = (endR b).2.2 := by
  obtain ⟨p1, g1, o1, s1, v1, l1, b1, d1, t1, u1⟩ := a
  obtain ⟨p2, g2, o2, s2, v2, l2, b2, d2, t2, u2⟩ := b
  obtain ⟨h1, h2, h3, h4, h5, h6, h7, h8, h9⟩ := h
  simp only at h1 h2 h3 h4 h5 h6 h7 h8 h9
  subst h1 h2 h3 h4 h5 h6 h7 h8
  have hs := stray_sim s1 g1 t1 t2 h9
  unfold endR
  simp only
  split
  · exact ⟨rfl, rfl⟩
  · split
    · exact ⟨rfl, rfl⟩
    · cases k1 : strayP s1 g1 t1 with
      | none =>
        cases k2 : strayP s1 g1 t2 with
        | none => simp only; unfold endO; split <;> exact ⟨rfl, rfl⟩
        | some n => rw [k1, k2] at hs; cases hs
      | some n =>
        cases k2 : strayP s1 g1 t2 with
        | none => rw [k1, k2] at hs; cases hs
        | some n => exact ⟨rfl, rfl⟩
theorem split_mem : ∀ (s : Bs), ∀ l ∈ splitNL s, ∀ c ∈ l, c ∈ s
  | [], l, h => by simp [splitNL] at h
  | d :: s, l, h => by
    have ih := split_mem s
    have e : splitNL (d :: s) = if d = 10 then [] :: splitNL s else consHead d (splitNL s) := rfl
    rw [e] at h
    intro c hc
    split at h
    · rcases List.mem_cons.1 h with rfl | h
      · cases hc
      · exact List.mem_cons_of_mem _ (ih l h c hc)
    · cases hs : splitNL s with
      | nil =>
        rw [hs] at h
        simp only [consHead, List.mem_singleton] at h
        subst h
        exact List.mem_cons.2 (.inl (List.mem_singleton.1 hc))
      | cons x xs =>
        rw [hs] at h ih
        simp only [consHead] at h
        rcases List.mem_cons.1 h with rfl | h
        · rcases List.mem_cons.1 hc with rfl | hc
          · simp
          · exact List.mem_cons_of_mem _ (ih x (by simp) c hc)
        · exact List.mem_cons_of_mem _ (ih l (by simp [h]) c hc)
theorem spaces_same {s t : Bs} (h : SpT s t) (h35 : ∀ c ∈ s, c ≠ 35) (hs : s.length ≤ 4194304) (ht : t.length ≤ 4194304) : (readP t).1 = (readP s).1 ∧ (readP t).2.2 = (readP s).2.2 := by
  have k := h.lines.ls.read (fun l hl c hc => h35 c (split_mem s l hl c hc)) (SimR.refl rs0) 1 1
  unfold readP readW
  rw [if_neg (by omega), if_neg (by omega)]
  generalize linesP scanL rs0 1 (splitNL s) = A at k
  generalize linesP scanL rs0 1 (splitNL t) = B at k
  obtain ⟨⟨e1, n1⟩, R1⟩ := A
  obtain ⟨⟨e2, n2⟩, R2⟩ := B
  simp only at k
  obtain ⟨rfl, k⟩ := k
  unfold doneR
  simp only
  split
  · exact ⟨k.end.1.symm, k.end.2.symm⟩
  · exact ⟨rfl, rfl⟩
end Go.Proofs.YtnlobmepajakcaaGreatDoor
