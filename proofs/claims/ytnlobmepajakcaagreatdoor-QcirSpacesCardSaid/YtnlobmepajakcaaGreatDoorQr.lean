/- Read of the text of a valid net gives the net; no condition. -/
import Derived.Test.YtnlobmepajakcaaGreatDoorQt
import Derived.Test.YtnlobmepajakcaaGreatDoorQb
set_option linter.unusedVariables false
set_option linter.unusedSimpArgs false
namespace Go.Proofs.YtnlobmepajakcaaGreatDoor
open Go.RowKit Go.Shelf

/-! ### Lines -/
theorem split_line : ∀ (l s : Bs), (∀ c ∈ l, c ≠ 10) → splitNL (l ++ 10 :: s) = l :: splitNL s
  | [], s, _ => by simp [splitNL]
  | c :: l, s, h => by
    have hc : c ≠ 10 := h c (by simp)
    show splitNL (c :: (l ++ 10 :: s)) = _
    rw [splitNL, if_neg hc, split_line l s (fun x hx => h x (by simp [hx]))]
    rfl

/-! ### Digits -/
theorem decV_append : ∀ (a b : Bs) (acc : Nat), decV acc (a ++ b) = decV (decV acc a) b
  | [], b, acc => rfl
  | c :: a, b, acc => by
    show decV (acc * 10 + (c.toNat - 48)) (a ++ b) = _
    rw [decV_append a b]; rfl
theorem dig_nat {d : Nat} (h : d < 10) : (UInt8.ofNat (48 + d)).toNat = 48 + d := by
  rw [UInt8.toNat_ofNat']
  omega
structure DigOk (t : Bs) (n : Nat) : Prop where
  dig : ∀ c ∈ t, isDig c = true
  ne : t ≠ []
  val : decV 0 t = n
  head : 1 ≤ n → t.head? ≠ some 48
theorem digF_ok : ∀ (f n : Nat), n < f → DigOk (digF f n) n
  | 0, n, h => by omega
  | f + 1, n, h => by
    unfold digF
    split
    · rename_i h10
      have e := dig_nat h10
      refine ⟨fun c hc => ?_, by simp, ?_, fun h1 he => ?_⟩
      · rw [List.mem_singleton] at hc
        subst hc
        rw [isDig_iff, e]; omega
      · show 0 * 10 + ((UInt8.ofNat (48 + n)).toNat - 48) = n
        rw [e]; omega
      · simp only [List.head?_cons, Option.some.injEq] at he
        have := congrArg UInt8.toNat he
        rw [e] at this
        have h48 : (48 : UInt8).toNat = 48 := rfl
        omega
    · rename_i h10
      have ih := digF_ok f (n / 10) (by omega)
      have e := dig_nat (d := n % 10) (by omega)
      refine ⟨fun c hc => ?_, by simp, ?_, fun h1 => ?_⟩
      · rw [List.mem_append, List.mem_singleton] at hc
        rcases hc with hc | rfl
        · exact ih.dig c hc
        · rw [isDig_iff, e]; omega
      · rw [decV_append, ih.val]
        show n / 10 * 10 + ((UInt8.ofNat (48 + n % 10)).toNat - 48) = n
        rw [e]; omega
      · rw [List.head?_append]
        cases hh : (digF f (n / 10)).head? with
        | none =>
          rw [List.head?_eq_none_iff] at hh
          exact absurd hh ih.ne
        | some c =>
          have := ih.head (by omega)
          rw [hh] at this
          simpa using this
theorem digP_ok (n : Nat) : DigOk (digP n) n := digF_ok (n + 1) n (by omega)

/-! ### Tokens of what is printed -/
theorem tw_all {p : UInt8 → Bool} : ∀ (a b : Bs), (∀ c ∈ a, p c = true) → (b.head?.any p) = false → (a ++ b).takeWhile p = a ∧ (a ++ b).dropWhile p = b
  | [], b, _, hb => by
    cases b with
    | nil => exact ⟨rfl, rfl⟩
    | cons c b =>
      have : p c = false := by simpa using hb
      simp [List.takeWhile_cons, List.dropWhile_cons, this]
  | c :: a, b, h, hb => by
    have hc : p c = true := h c (by simp)
    obtain ⟨h1, h2⟩ := tw_all a b (fun x hx => h x (by simp [hx])) hb
    simp only [List.cons_append, List.takeWhile_cons, List.dropWhile_cons, hc, if_true]
    exact ⟨by rw [h1], h2⟩
theorem dig_not {c : UInt8} (h : isDig c = true) : c ≠ 32 := by
  rintro rfl
  cases h
theorem low_not {c : UInt8} (h : isLow c = true) : c ≠ 32 := by
  rintro rfl
  cases h
theorem tok_num {t : Bs} {n : Nat} (h : DigOk t n) (h1 : 1 ≤ n) (h2 : n ≤ 65536) {rest : Bs} (hr : (rest.head?.any isDig) = false) : tokP (t ++ rest) = (tokP rest).map fun ts => ⟨[], n, 0⟩ :: ts := by
  cases t with
  | nil => exact absurd rfl h.ne
  | cons c a =>
    have hc := h.dig c (by simp)
    obtain ⟨e1, e2⟩ := tw_all a rest (fun x hx => h.dig x (by simp [hx])) hr
    have h49 : 49 ≤ c.toNat ∧ c.toNat ≤ 57 := by
      have hd := isDig_iff.1 hc
      refine ⟨?_, hd.2⟩
      rcases Nat.lt_or_ge c.toNat 49 with hlt | hge
      · exact absurd (congrArg some (UInt8.toNat_inj.1 (show c.toNat = (48 : UInt8).toNat by show c.toNat = 48; omega))) (h.head h1)
      · exact hge
    show tokP (c :: (a ++ rest)) = _
    rw [tok_cons, if_neg (dig_not hc), if_neg (by rw [low_dig hc]; simp), if_pos h49, e1, e2, h.val, if_neg (by omega)]
theorem tok_word {w : Bs} (hw : ∀ c ∈ w, isLow c = true) (hne : w ≠ []) {rest : Bs} (hr : (rest.head?.any isLow) = false) : tokP (w ++ rest) = (tokP rest).map fun ts => ⟨w, 0, 0⟩ :: ts := by
  cases w with
  | nil => exact absurd rfl hne
  | cons c a =>
    have hc := hw c (by simp)
    obtain ⟨e1, e2⟩ := tw_all a rest (fun x hx => hw x (by simp [hx])) hr
    show tokP (c :: (a ++ rest)) = _
    rw [tok_cons, if_neg (low_not hc), if_pos hc, e1, e2]
theorem tok_space (r : Bs) : tokP (32 :: r) = tokP r := by rw [tok_cons, if_pos rfl]
def tk (c : UInt8) : Tok := ⟨[], 0, c⟩
def intT (x : Int) : List Tok := (if x < 0 then [tk 45] else []) ++ [⟨[], x.natAbs, 0⟩]
def litToks : List Int → List Tok
  | [] => []
  | [x] => intT x
  | x :: xs => intT x ++ [tk 44] ++ litToks xs
def LitOk (x : Int) : Prop := x ≠ 0 ∧ -65536 ≤ x ∧ x ≤ 65536
theorem tok_int {x : Int} (h : LitOk x) {rest : Bs} (hr : (rest.head?.any isDig) = false) : tokP (intP x ++ rest) = (tokP rest).map fun ts => intT x ++ ts := by
  obtain ⟨h0, h1, h2⟩ := h
  unfold intP intT
  split
  · rename_i hn
    have ha : (-x).toNat = x.natAbs := by omega
    show tokP (45 :: (digP (-x).toNat ++ rest)) = _
    rw [pun_tok (by rfl), tok_num (digP_ok _) (by omega) (by omega) hr, ha]
    cases tokP rest <;> rfl
  · rename_i hn
    have ha : x.toNat = x.natAbs := by omega
    rw [tok_num (digP_ok _) (by omega) (by omega) hr, ha]
    cases tokP rest <;> rfl
theorem tok_lits : ∀ (l : List Int) (rest : Bs), (∀ x ∈ l, LitOk x) → (rest.head?.any isDig) = false → tokP (litsP l ++ rest) = (tokP rest).map fun ts => litToks l ++ ts
  | [], rest, _, _ => by
    show tokP rest = _
    cases tokP rest <;> rfl
  | [x], rest, h, hr => tok_int (h x (by simp)) hr
  | x :: y :: xs, rest, h, hr => by
    have e : litsP (x :: y :: xs) ++ rest = intP x ++ (44 :: 32 :: (litsP (y :: xs) ++ rest)) := by simp [litsP]
    rw [e, tok_int (h x (by simp)) (by rfl), pun_tok (by rfl), tok_space, tok_lits (y :: xs) rest (fun z hz => h z (List.mem_cons_of_mem _ hz)) hr]
    cases tokP rest with
    | none => rfl
    | some ts => simp [litToks, tk]
theorem tok_list {l : List Int} (h : ∀ x ∈ l, LitOk x) : tokP (40 :: (litsP l ++ [41])) = some (tk 40 :: (litToks l ++ [tk 41])) := by
  rw [pun_tok (by rfl), tok_lits l [41] h (by rfl), pun_tok (by rfl)]
  rfl
theorem litT_int {signs : Bool} {x : Int} (h : LitOk x) (hs : signs = true ∨ 0 < x) (r : List Tok) : litT signs (intT x ++ r) = some (x, r) := by
  obtain ⟨h0, h1, h2⟩ := h
  unfold intT
  split
  · rename_i hn
    have hst : signs = true := by rcases hs with h | h; exact h; omega
    subst hst
    show litT true (tk 45 :: ⟨[], x.natAbs, 0⟩ :: r) = _
    rw [litT_cons]
    rw [if_pos ⟨rfl, rfl⟩]
    rw [numT_cons]
    rw [if_neg (by show x.natAbs ≠ 0; omega)]
    show some (-(x.natAbs : Int), r) = _
    congr 2; omega
  · rename_i hn
    show litT signs (⟨[], x.natAbs, 0⟩ :: r) = _
    rw [litT_cons]
    rw [if_neg (by simp)]
    rw [numT_cons]
    rw [if_neg (by show x.natAbs ≠ 0; omega)]
    show some ((x.natAbs : Int), r) = _
    congr 2; omega
theorem int_head (x : Int) (r : List Tok) : ∃ y q, intT x ++ r = y :: q ∧ y.byte ≠ 41 := by
  unfold intT
  split
  · exact ⟨tk 45, _, rfl, by decide⟩
  · exact ⟨⟨[], x.natAbs, 0⟩, _, rfl, by simp⟩
theorem items_step {signs : Bool} {x : Int} (h : LitOk x) (hs : signs = true ∨ 0 < x) (g : Nat) (acc : List Int) (r : List Tok) :
    itemsT signs (g + 1) acc ((if acc = [] then [] else [tk 44]) ++ (intT x ++ r)) = itemsT signs g (acc ++ [x]) r := by
  have hl := litT_int h hs r
  obtain ⟨y, q, e, hy⟩ := int_head x r
  rw [e] at hl ⊢
  by_cases ha : acc = []
  · subst ha
    simp only [if_true, List.nil_append]
    rw [itemsT, if_neg hy]
    simp only [if_true, hl]
    rfl
  · simp only [if_neg ha, List.cons_append, List.nil_append]
    rw [itemsT, if_neg (by decide)]
    simp only [if_neg ha]
    have : (tk 44).byte = 44 := rfl
    simp only [this, if_true, hl]
theorem items_end (signs : Bool) (g : Nat) (acc : List Int) : itemsT signs (g + 1) acc [tk 41] = some acc := by
  rw [itemsT, if_pos (by rfl), if_pos rfl]
theorem items_lits {signs : Bool} : ∀ (l acc : List Int) (g : Nat), l ≠ [] → (∀ x ∈ l, LitOk x ∧ (signs = true ∨ 0 < x)) → l.length + 1 ≤ g →
    itemsT signs g acc ((if acc = [] then [] else [tk 44]) ++ (litToks l ++ [tk 41])) = some (acc ++ l)
  | [], _, _, h, _, _ => absurd rfl h
  | [x], acc, g, _, hl, hg => by
    obtain ⟨g, rfl⟩ : ∃ k, g = k + 1 + 1 := ⟨g - 2, by simp at hg; omega⟩
    show itemsT signs (g + 1 + 1) acc (_ ++ (intT x ++ [tk 41])) = _
    rw [items_step (hl x (by simp)).1 (hl x (by simp)).2, items_end]
  | x :: y :: xs, acc, g, _, hl, hg => by
    obtain ⟨g, rfl⟩ : ∃ k, g = k + 1 := ⟨g - 1, by simp at hg; omega⟩
    have e : litToks (x :: y :: xs) ++ [tk 41] = intT x ++ (tk 44 :: (litToks (y :: xs) ++ [tk 41])) := by simp [litToks]
    rw [e, items_step (hl x (by simp)).1 (hl x (by simp)).2]
    have := items_lits (signs := signs) (y :: xs) (acc ++ [x]) g (by simp) (fun z hz => hl z (List.mem_cons_of_mem _ hz)) (by simp at hg ⊢; omega)
    rw [if_neg (by simp)] at this
    rw [show tk 44 :: (litToks (y :: xs) ++ [tk 41]) = [tk 44] ++ (litToks (y :: xs) ++ [tk 41]) from rfl, this]
    simp
theorem intT_len (x : Int) : 1 ≤ (intT x).length := by unfold intT; split <;> simp
theorem litToks_len : ∀ (l : List Int), l.length ≤ (litToks l).length
  | [] => Nat.le_refl _
  | [x] => intT_len x
  | x :: y :: xs => by
    have := litToks_len (y :: xs)
    have := intT_len x
    simp only [litToks, List.length_append, List.length_cons, List.length_nil] at *
    omega
theorem listT_lits {signs : Bool} {l : List Int} (hl : ∀ x ∈ l, LitOk x ∧ (signs = true ∨ 0 < x)) : listT signs (tk 40 :: (litToks l ++ [tk 41])) = some l := by
  rw [listT_cons]
  rw [if_pos (by rfl)]
  by_cases h : l = []
  · subst h; exact items_end signs _ []
  · have := items_lits (signs := signs) l [] ((litToks l ++ [tk 41]).length + 1) h hl (by have := litToks_len l; simp; omega)
    rw [if_pos rfl] at this
    exact this

/-! ### What the printed lines say -/
def listB (l : List Int) : Bs := 40 :: (litsP l ++ [41])
def blockB (b : PBlock) : Bs := (if b.ex = true then wExists else wForall) ++ listB b.vars
def outB (x : Int) : Bs := wOutput ++ listB [x]
def gateB (g : PGate) : Bs := intP g.var ++ (32 :: 61 :: 32 :: (kindW g.kind ++ listB g.ins))
theorem scan_block {b : PBlock} (h : ∀ x ∈ b.vars, 1 ≤ x ∧ x ≤ 65536) : scanL (blockB b) = .block (if b.ex = true then 2 else 3) b.vars := by
  have hl : ∀ x ∈ b.vars, LitOk x ∧ (false = true ∨ 0 < x) := fun x hx => by have := h x hx; unfold LitOk; omega
  have hk : ∀ w : Bs, (∀ c ∈ w, isLow c = true) → w ≠ [] → tokP (w ++ listB b.vars) = some (⟨w, 0, 0⟩ :: tk 40 :: (litToks b.vars ++ [tk 41])) := fun w h1 h2 => by
    unfold listB
    rw [tok_word h1 h2 (by rfl), tok_list (fun x hx => (hl x hx).1)]; rfl
  have hp : ∀ w : Bs, w ≠ wOutput → wordP w ≠ 4 → wordP w ≠ 0 → (∀ y ∈ (⟨w, 0, 0⟩ : Tok) :: tk 40 :: (litToks b.vars ++ [tk 41]), y.byte ≠ 0 → y.n = 0) →
      parseT (⟨w, 0, 0⟩ :: tk 40 :: (litToks b.vars ++ [tk 41])) = .block (wordP w) b.vars := fun w h1 h4 h0 hw => by
    rw [parseT_cons]
    rw [if_neg (by simp), lits_list _ (wf_tail hw)]
    show (match listT (decide (w = wOutput)) (tk 40 :: (litToks b.vars ++ [tk 41])) with
      | none => PLine.bad
      | some l => if wordP w = 4 then (match l with | [x] => .out x | _ => .bad) else if wordP w = 0 then .bad else .block (wordP w) l) = _
    rw [decide_eq_false h1, listT_lits hl]
    simp only [if_neg h4, if_neg h0]
  rw [scan_tok]
  unfold tokL blockB
  by_cases hx : b.ex = true
  · rw [if_pos hx, if_pos hx]
    have e := hk wExists (by decide) (by decide)
    rw [e]
    exact hp wExists (by decide) (by decide) (by decide) (tok_facts _ _ _ (Nat.le_refl _) e).2
  · rw [if_neg hx, if_neg hx]
    have e := hk wForall (by decide) (by decide)
    rw [e]
    exact hp wForall (by decide) (by decide) (by decide) (tok_facts _ _ _ (Nat.le_refl _) e).2
theorem scan_out {x : Int} (h : LitOk x) : scanL (outB x) = .out x := by
  have hl : ∀ y ∈ [x], LitOk y ∧ (true = true ∨ 0 < y) := fun y hy => by rw [List.mem_singleton] at hy; subst hy; exact ⟨h, .inl rfl⟩
  have e : tokP (outB x) = some (⟨wOutput, 0, 0⟩ :: tk 40 :: (litToks [x] ++ [tk 41])) := by
    unfold outB listB
    rw [tok_word (by decide) (by decide) (by rfl), tok_list (fun x hx => (hl x hx).1)]; rfl
  have hw := (tok_facts _ _ _ (Nat.le_refl _) e).2
  rw [scan_tok]
  unfold tokL
  rw [e]
  show parseT (⟨wOutput, 0, 0⟩ :: tk 40 :: (litToks [x] ++ [tk 41])) = _
  rw [parseT_cons]
  rw [if_neg (by simp), lits_list _ (wf_tail hw)]
  show (match listT true (tk 40 :: (litToks [x] ++ [tk 41])) with
      | none => PLine.bad
      | some l => if wordP wOutput = 4 then (match l with | [x] => .out x | _ => .bad) else if wordP wOutput = 0 then .bad else .block (wordP wOutput) l) = _
  rw [listT_lits hl]
  rfl
theorem kindW_ok {k : Nat} (h : 1 ≤ k ∧ k ≤ 4) : (∀ c ∈ kindW k, isLow c = true) ∧ kindW k ≠ [] ∧ kindP (kindW k) = k := by
  have : k = 1 ∨ k = 2 ∨ k = 3 ∨ k = 4 := by omega
  rcases this with rfl | rfl | rfl | rfl <;> decide
theorem scan_gate {v : Int} {k : Nat} {l : List Int} (hv : 1 ≤ v ∧ v ≤ 65536) (hk : 1 ≤ k ∧ k ≤ 4) (hl : ∀ x ∈ l, LitOk x) : scanL (gateB ⟨v, k, l⟩) = .gate v k l := by
  have hl2 : ∀ y ∈ l, LitOk y ∧ (true = true ∨ 0 < y) := fun y hy => ⟨hl y hy, .inl rfl⟩
  obtain ⟨k1, k2, k3⟩ := kindW_ok hk
  have eI : intT v = [⟨[], v.natAbs, 0⟩] := by unfold intT; rw [if_neg (by omega)]; rfl
  have e : tokP (gateB ⟨v, k, l⟩) = some (⟨[], v.natAbs, 0⟩ :: tk 61 :: ⟨kindW k, 0, 0⟩ :: tk 40 :: (litToks l ++ [tk 41])) := by
    unfold gateB listB
    rw [tok_int (by unfold LitOk; show v ≠ 0 ∧ -65536 ≤ v ∧ v ≤ 65536; omega) (by rfl), tok_space, pun_tok (by rfl), tok_space, tok_word k1 k2 (by rfl), tok_list hl]
    show some (intT v ++ _) = _
    rw [eI]; rfl
  have hw := (tok_facts _ _ _ (Nat.le_refl _) e).2
  rw [scan_tok]
  unfold tokL
  rw [e]
  show parseT (⟨[], v.natAbs, 0⟩ :: tk 61 :: ⟨kindW k, 0, 0⟩ :: tk 40 :: (litToks l ++ [tk 41])) = _
  rw [parse_gate (by show v.natAbs ≠ 0; omega) rfl _ (wf_tail hw)]
  rw [gateRest_cons]
  rw [if_pos (by rfl), listT_lits hl2]
  show (match (if kindP (kindW k) = 0 then none else some (kindP (kindW k), l)) with | some p => PLine.gate (v.natAbs : Int) p.1 p.2 | none => .bad) = _
  rw [k3, if_neg (by omega)]
  show PLine.gate (v.natAbs : Int) k l = _
  congr 1; omega
end Go.Proofs.YtnlobmepajakcaaGreatDoor
