/- What is read is a valid net, its text is short, and errors are at lines of the text; no condition / Spaces around the bytes that are no letters, digits or line feeds, and blank lines and comments, change nothing in what is read but the lines of errors; the condition: the text has no byte 35. -/
import Derived.Test.YtnlobmepajakcaaGreatDoorZQs
set_option linter.unusedVariables false
set_option linter.unusedSimpArgs false
namespace Go.Proofs.YtnlobmepajakcaaGreatDoor
open Go.RowKit Go.Shelf

theorem numV_rng {t : Bs} {n : Nat} (h : numV t = some n) (hd : ∀ c ∈ t, isDig c = true) : 1 ≤ n ∧ n ≤ 65536 := by
  unfold numV at h
  by_cases h1 : t = []
  · rw [if_pos h1] at h; cases h
  · rw [if_neg h1] at h
    by_cases h2 : t.head? = some 48
    · rw [if_pos h2] at h; cases h
    · rw [if_neg h2] at h
      by_cases h3 : 65536 < decV 0 t
      · rw [if_pos h3] at h; cases h
      · rw [if_neg h3] at h
        injection h with h
        subst h
        refine ⟨?_, by omega⟩
        cases t with
        | nil => exact absurd rfl h1
        | cons c r =>
          have hc := isDig_iff.1 (hd c (by simp))
          have hne : c ≠ 48 := fun e => h2 (by rw [e]; rfl)
          have hne' : c.toNat ≠ 48 := fun e => hne (UInt8.toNat_inj.1 (by rw [e]; rfl))
          have e : decV 0 (c :: r) = decV (0 * 10 + (c.toNat - 48)) r := rfl
          have := decV_ge r (0 * 10 + (c.toNat - 48))
          omega
theorem takeWhile_all {α : Type} (p : α → Bool) : ∀ (l : List α), ∀ c ∈ l.takeWhile p, p c = true
  | [], c, h => by cases h
  | x :: l, c, h => by
    rw [List.takeWhile_cons] at h
    split at h
    · rcases List.mem_cons.1 h with rfl | h
      · assumption
      · exact takeWhile_all p l c h
    · cases h
theorem number_rng (s : Scan) : 1 ≤ (numberP s).1 ∧ (numberP s).1 ≤ 65536 := by
  unfold numberP
  cases h : numV (s.rest.takeWhile isDig) with
  | none => simp
  | some n =>
    have := numV_rng h (takeWhile_all _ _)
    simp only
    omega
theorem literal_rng (s : Scan) : LitOk (literalP s).1 := by
  unfold literalP
  split
  · have := number_rng ⟨(signP 45 s.rest).2, s.ok⟩
    unfold LitOk; simp only; omega
  · have := number_rng s
    unfold LitOk; omega
theorem listGo_all {el : Scan → Int × Scan} {p : Int → Prop} (hel : ∀ s, p (el s).1) : ∀ (f : Nat) (l : List Int) (s : Scan), (∀ x ∈ l, p x) → ∀ x ∈ (listGo el f l s).1, p x
  | 0, l, s, h => by simpa [listGo] using h
  | f + 1, l, s, h => by
    rw [listGo]
    split
    · refine listGo_all hel f _ _ (fun x hx => ?_)
      unfold roundP at hx
      rcases List.mem_append.1 hx with hx | hx
      · exact h x hx
      · rw [List.mem_singleton.1 hx]; exact hel _
    · exact h
theorem listP_all {el : Scan → Int × Scan} {p : Int → Prop} (hel : ∀ s, p (el s).1) (s : Scan) : ∀ x ∈ (listP el s).1, p x :=
  listGo_all hel _ _ _ (fun x hx => by simp at hx)
theorem listGo_lenU (el : Scan → Int × Scan) : ∀ (f : Nat) (l : List Int) (s : Scan), (listGo el f l s).1.length ≤ l.length + f
  | 0, l, s => by simp [listGo]
  | f + 1, l, s => by
    rw [listGo]
    split
    · have := listGo_lenU el f (roundP el l s).1 (roundP el l s).2
      have h2 : (roundP el l s).1.length = l.length + 1 := by simp [roundP]
      omega
    · simp only []; omega
theorem signP_lenU (c : UInt8) (s : Bs) : (signP c s).2.length ≤ s.length := by
  unfold signP
  split
  · have := sp_len s.tail
    simp at this ⊢; omega
  · exact Nat.le_refl _
theorem listP_lenU (el : Scan → Int × Scan) (s : Scan) : (listP el s).1.length ≤ s.rest.length + 2 := by
  have h1 := listGo_lenU el ((needP 40 s).rest.length + 2) [] (needP 40 s)
  have h2 := signP_lenU 40 s.rest
  unfold listP listE
  unfold needP at h1 ⊢
  simp at h1 ⊢
  omega
theorem takeP_lenU (p : UInt8 → Bool) (s : Bs) : (takeP p s).2.length ≤ s.length := by
  unfold takeP
  exact Nat.le_trans (sp_len _) (dropWhile_len _ _)
theorem numberP_lenU (s : Scan) : (numberP s).2.rest.length ≤ s.rest.length := by
  have := takeP_lenU isDig s.rest
  unfold takeP at this
  unfold numberP
  split <;> exact this
/-- What a line can say. -/
def LineOk (n : Nat) : PLine → Prop
  | .bad => True
  | .gate v k l => (1 ≤ v ∧ v ≤ 65536) ∧ (1 ≤ k ∧ k ≤ 4) ∧ (∀ x ∈ l, LitOk x) ∧ l.length ≤ n + 2
  | .out x => LitOk x
  | .block w l => ∀ x ∈ l, 1 ≤ x ∧ x ≤ 65536
theorem kindP_le (w : Bs) : kindP w ≤ 4 := by
  unfold kindP
  split
  · omega
  · split
    · omega
    · split
      · omega
      · split <;> omega
theorem scan_ok (t : Bs) : LineOk t.length (scanL t) := by
  unfold scanL
  simp only
  split
  · unfold gateL
    simp only
    split
    · rename_i h
      have hk := kindP_le (takeP isLow (needP 61 (numberP ⟨sp t, true⟩).2).rest).1
      refine ⟨number_rng _, by omega, listP_all literal_rng _, ?_⟩
      have h1 := listP_lenU literalP ⟨(takeP isLow (needP 61 (numberP ⟨sp t, true⟩).2).rest).2, (needP 61 (numberP ⟨sp t, true⟩).2).ok⟩
      have h2 := takeP_lenU isLow (needP 61 (numberP ⟨sp t, true⟩).2).rest
      have h3 := signP_lenU 61 (numberP ⟨sp t, true⟩).2.rest
      have h4 := numberP_lenU ⟨sp t, true⟩
      have h5 := sp_len t
      have h6 : (needP 61 (numberP ⟨sp t, true⟩).2).rest = (signP 61 (numberP ⟨sp t, true⟩).2.rest).2 := rfl
      rw [h6] at h2
      simp only at h1 h4
      rw [← h6] at h2
      rw [← h6] at h3
      omega
    · trivial
  · unfold otherL
    simp only
    split
    · have hl := listP_all literal_rng ⟨(takeP isLow (sp t)).2, true⟩
      split
      · rename_i x hx
        split
        · exact hl x (by rw [hx]; simp)
        · trivial
      · trivial
    · split
      · trivial
      · split
        · exact listP_all number_rng _
        · trivial

theorem alt_snoc : ∀ (p : List PBlock) (prev : Option Bool) (b : PBlock), altB prev (p ++ [b]) = (altB prev p && !b.vars.isEmpty && decide ((match p.getLast? with | some x => some x.ex | none => prev) ≠ some b.ex))
  | [], prev, b => by
    by_cases h : prev = some b.ex <;> simp [altB, h]
  | x :: p, prev, b => by
    rw [List.cons_append, altB, alt_snoc p (some x.ex) b, altB]
    have e : (match (x :: p).getLast? with | some x => some x.ex | none => prev) = (match p.getLast? with | some y => some y.ex | none => some x.ex) := by
      cases p with
      | nil => rfl
      | cons y q => rw [List.getLast?_cons_cons]; cases h : (y :: q).getLast? with
        | none => simp at h
        | some z => rfl
    rw [e]
    simp only [Bool.and_assoc]
theorem last_split {α : Type} {p : List α} {x : α} (h : p.getLast? = some x) : p = p.dropLast ++ [x] := by
  have hne : p ≠ [] := fun e => by rw [e] at h; cases h
  have := List.dropLast_concat_getLast hne
  rw [List.getLast?_eq_some_getLast hne] at h
  injection h with h
  rw [h] at this
  exact this.symm
theorem addBlock_vars (p : List PBlock) (ex : Bool) (l : List Int) : varsOf (addBlock p ex l) = varsOf p ++ l := by
  unfold addBlock
  cases h : p.getLast? with
  | none =>
    simp only
    split
    · rename_i e; rw [e]; simp
    · rw [varsOf_append]; simp [varsOf]
  | some x =>
    simp only
    split
    · conv => rhs; rw [last_split h]
      rw [varsOf_append, varsOf_append]
      simp [varsOf]
    · split
      · rename_i e; rw [e]; simp
      · rw [varsOf_append]; simp [varsOf]
theorem addBlock_alt {p : List PBlock} (h : altB none p = true) (ex : Bool) (l : List Int) : altB none (addBlock p ex l) = true := by
  unfold addBlock
  cases hl : p.getLast? with
  | none =>
    simp only
    split
    · exact h
    · rename_i hne
      rw [alt_snoc, hl, h]
      simp [hne]
  | some x =>
    simp only
    split
    · rename_i he
      have h' := h
      rw [last_split hl, alt_snoc] at h'
      simp only [Bool.and_eq_true, decide_eq_true_eq, Bool.not_eq_true', List.isEmpty_eq_false_iff] at h'
      rw [alt_snoc]
      simp only [Bool.and_eq_true, decide_eq_true_eq, Bool.not_eq_true', List.isEmpty_eq_false_iff]
      exact ⟨⟨h'.1.1, by simp [h'.1.2]⟩, h'.2⟩
    · split
      · exact h
      · rename_i hx hne
        rw [alt_snoc, hl, h]
        simp [hne, hx]
theorem decl_add : ∀ (l : List Int) {n : Nat} {S S' : Nat → Bool}, declP S l = some S' → (∀ v ∈ l, 1 ≤ v ∧ v ≤ 65536) → n + l.length ≤ 1024 → addVars n S l = some (n + l.length, S')
  | [], n, S, S', h, hr, hn => by injection h with h; subst h; rfl
  | v :: vs, n, S, S', h, hr, hn => by
    rw [declP] at h
    by_cases hs : S v.toNat = true
    · rw [if_pos hs] at h; cases h
    · rw [if_neg hs] at h
      have hs' : S v.toNat = false := by simpa using hs
      simp only [List.length_cons] at hn
      rw [addVars, if_neg (by omega), if_pos (addB_iff.2 ⟨(hr v (by simp)).1, (hr v (by simp)).2, hs'⟩), decl_add vs h (fun x hx => hr x (by simp [hx])) (by omega)]
      simp only [List.length_cons]
      congr 2
      omega
/-- The reader keeps to this. -/
structure ROk (R : RS) : Prop where
  alt : altB none R.pre = true
  vars : ∃ S0, addVars 0 noS (varsOf R.pre) = some (R.vars, S0) ∧ GoodG S0 R.gates ∧ R.seen = usedG S0 R.gates
  nog : R.done = false → R.gates = []
  lits : R.lits = litSum R.gates
  lim : R.lits ≤ 200000
  out : R.done = true → LitOk R.out
  al : R.at_.length = R.gates.length
  ins : ∀ g ∈ R.gates, ∀ x ∈ g.ins, LitOk x
theorem rs0_rok : ROk rs0 := ⟨rfl, ⟨noS, rfl, ⟨fun g hg => (by cases hg), List.Pairwise.nil⟩, rfl⟩, fun _ => rfl, rfl, by decide, fun h => (by cases h), rfl, fun g hg => (by cases hg)⟩
theorem used_snoc (S : Nat → Bool) (gs : List PGate) (g : PGate) : usedG S (gs ++ [g]) = upd (usedG S gs) g.var.toNat true := by simp [usedG]
theorem litSum_snoc (gs : List PGate) (g : PGate) : litSum (gs ++ [g]) = litSum gs + g.ins.length := by rw [litSum_append]; simp [litSum]
theorem shaped_of {k : Nat} {l : List Int} (hk : 1 ≤ k ∧ k ≤ 4) (h : ¬ ((k = 3 ∧ l.length ≠ 2) ∨ (k = 4 ∧ l.length ≠ 3))) : shapedB (k : Int) l.length = true := by
  obtain ⟨h1, h2⟩ := hk
  have : k = 1 ∨ k = 2 ∨ k = 3 ∨ k = 4 := by omega
  rcases this with rfl | rfl | rfl | rfl
  · rfl
  · rfl
  · have : l.length = 2 := by omega
    simp [shapedB, this]
  · have : l.length = 3 := by omega
    simp [shapedB, this]
theorem addL_rok {R R' : RS} {no n : Nat} {p : PLine} (hR : ROk R) (hp : LineOk n p) (h : addL R no p = (0, R')) : ROk R' := by
  cases p with
  | bad => simp [addL] at h
  | gate v k l =>
    obtain ⟨hv, hk, hl, _⟩ := hp
    rw [addL] at h
    by_cases h1 : R.done = false
    · rw [if_pos h1] at h; simp at h
    · rw [if_neg h1] at h
      by_cases h2 : (k = 3 ∧ l.length ≠ 2) ∨ (k = 4 ∧ l.length ≠ 3)
      · rw [if_pos h2] at h; simp at h
      · rw [if_neg h2] at h
        by_cases h3 : R.seen v.toNat = true
        · rw [if_pos h3] at h; simp at h
        · rw [if_neg h3] at h
          by_cases h4 : 200000 < R.lits + l.length
          · rw [if_pos h4] at h; simp at h
          · rw [if_neg h4] at h
            injection h with _ h
            subst h
            obtain ⟨S0, k1, k2, k3⟩ := hR.vars
            have hs : R.seen v.toNat = false := by simpa using h3
            rw [k3] at hs
            rw [usedG_iff] at hs
            simp only [Bool.or_eq_false_iff, List.any_eq_false] at hs
            refine ⟨hR.alt, ⟨S0, k1, ⟨fun g hg => ?_, ?_⟩, ?_⟩, fun hd => absurd hd h1, ?_, by simp only; omega, hR.out, by simp [hR.al], fun g hg => ?_⟩
            · rcases List.mem_append.1 hg with hg | hg
              · exact k2.each g hg
              · rw [List.mem_singleton.1 hg]
                exact ⟨shaped_of hk h2, addB_iff.2 ⟨hv.1, hv.2, hs.1⟩⟩
            · rw [List.pairwise_append]
              refine ⟨k2.diff, List.pairwise_singleton _ _, fun a ha b hb => ?_⟩
              rw [List.mem_singleton.1 hb]
              intro e
              exact hs.2 a ha (by simp [e])
            · show upd R.seen v.toNat true = usedG S0 (R.gates ++ [⟨v, k, l⟩])
              rw [used_snoc, k3]
            · show R.lits + l.length = litSum (R.gates ++ [⟨v, k, l⟩])
              rw [litSum_snoc, hR.lits]
            · rcases List.mem_append.1 hg with hg | hg
              · exact hR.ins g hg
              · rw [List.mem_singleton.1 hg]; exact hl
  | out x =>
    rw [addL] at h
    by_cases h1 : R.done = true
    · rw [if_pos h1] at h; simp at h
    · rw [if_neg h1] at h
      injection h with _ h
      subst h
      exact ⟨hR.alt, hR.vars, fun hd => (by cases hd), hR.lits, hR.lim, fun _ => hp, hR.al, hR.ins⟩
  | block w l =>
    rw [addL] at h
    by_cases h1 : R.done = true ∨ (w = 1 ∧ R.begun = true)
    · rw [if_pos h1] at h; simp at h
    · rw [if_neg h1] at h
      cases hd : declP R.seen l with
      | none => rw [hd] at h; simp at h
      | some S =>
        rw [hd] at h
        simp only at h
        by_cases h2 : 1024 < R.vars + l.length
        · rw [if_pos h2] at h; simp at h
        · rw [if_neg h2] at h
          injection h with _ h
          subst h
          obtain ⟨S0, k1, k2, k3⟩ := hR.vars
          have hdn : R.done = false := by simpa using fun e => h1 (.inl e)
          have hg := hR.nog hdn
          rw [hg] at k3
          have k3' : R.seen = S0 := k3
          rw [k3'] at hd
          refine ⟨addBlock_alt hR.alt _ _, ⟨S, ?_, ?_, ?_⟩, hR.nog, hR.lits, hR.lim, hR.out, hR.al, hR.ins⟩
          · show addVars 0 noS (varsOf (addBlock R.pre (decide (w ≠ 3)) l)) = some (R.vars + l.length, S)
            rw [addBlock_vars, addVars_append, k1]
            exact decl_add l hd hp (by omega)
          · rw [hg]; exact ⟨fun g hg => (by cases hg), List.Pairwise.nil⟩
          · rw [hg]; rfl
theorem lines_rok : ∀ (ts : List Bs) {R R' : RS} {no : Nat} {e : Int × Nat}, ROk R → linesP scanL R no ts = (e, R') → ROk R'
  | [], R, R', no, e, hR, h => by
    rw [linesP] at h; injection h with _ h; rw [← h]; exact hR
  | t :: ts, R, R', no, e, hR, h => by
    rw [linesP] at h
    split at h
    · exact lines_rok ts hR h
    · generalize hA : addL R no (scanL t) = A at h
      obtain ⟨ec, R1⟩ := A
      simp only at h
      by_cases h0 : ec = 0
      · rw [if_pos h0] at h
        subst h0
        exact lines_rok ts (addL_rok hR (scan_ok t) hA) h
      · rw [if_neg h0] at h
        injection h with _ h
        rw [← h]; exact hR

theorem digF_len : ∀ (k f n : Nat), n < 10 ^ (k + 1) → (digF f n).length ≤ k + 1
  | k, 0, n, h => by simp [digF]
  | 0, f + 1, n, h => by
    rw [digF, if_pos (by simpa using h)]; simp
  | k + 1, f + 1, n, h => by
    rw [digF]
    split
    · simp
    · have := digF_len k f (n / 10) (by rw [Nat.div_lt_iff_lt_mul (by omega)]; rw [Nat.pow_succ] at h; exact h)
      simp only [List.length_append, List.length_cons, List.length_nil]; omega
theorem intP_len {x : Int} (h : -65536 ≤ x ∧ x ≤ 65536) : (intP x).length ≤ 6 := by
  unfold intP digP
  split
  · have := digF_len 4 ((-x).toNat + 1) (-x).toNat (by omega)
    simp only [List.length_cons]; omega
  · have := digF_len 4 (x.toNat + 1) x.toNat (by omega)
    omega
theorem litsP_len : ∀ (l : List Int), (∀ x ∈ l, -65536 ≤ x ∧ x ≤ 65536) → (litsP l).length ≤ 8 * l.length
  | [], h => by simp [litsP]
  | [x], h => by
    have := intP_len (h x (by simp))
    simp only [litsP, List.length_cons, List.length_nil]; omega
  | x :: y :: l, h => by
    have h1 := intP_len (h x (by simp))
    have h2 := litsP_len (y :: l) (fun z hz => h z (by simp [hz]))
    simp only [litsP, List.length_append, List.length_cons, List.length_nil] at h2 ⊢
    omega
theorem kindW_len (k : Int) : (kindW k).length ≤ 3 := by
  unfold kindW
  split
  · decide
  · split
    · decide
    · split <;> decide
theorem blocks_len : ∀ (p : List PBlock), (∀ b ∈ p, ∀ x ∈ b.vars, -65536 ≤ x ∧ x ≤ 65536) → (p.flatMap blockS).length ≤ 9 * p.length + 8 * (varsOf p).length
  | [], h => by simp
  | b :: p, h => by
    have h1 := litsP_len b.vars (h b (by simp))
    have h2 := blocks_len p (fun x hx => h x (by simp [hx]))
    have h3 : (blockS b).length ≤ 9 + (litsP b.vars).length := by
      unfold blockS listS
      split <;> simp [wExists, wForall] <;> omega
    have h4 : varsOf (b :: p) = b.vars ++ varsOf p := by simp [varsOf]
    simp only [List.flatMap_cons, List.length_append, List.length_cons, h4]
    omega
theorem gates_len : ∀ (gs : List PGate), (∀ g ∈ gs, (-65536 ≤ g.var ∧ g.var ≤ 65536) ∧ ∀ x ∈ g.ins, -65536 ≤ x ∧ x ≤ 65536) → (gs.flatMap gateS).length ≤ 15 * gs.length + 8 * litSum gs
  | [], h => by simp
  | g :: gs, h => by
    have h1 := litsP_len g.ins (h g (by simp)).2
    have h2 := gates_len gs (fun x hx => h x (by simp [hx]))
    have h3 := intP_len (h g (by simp)).1
    have h5 := kindW_len g.kind
    have h4 : litSum (g :: gs) = g.ins.length + litSum gs := rfl
    have h6 : (gateS g).length ≤ 15 + (litsP g.ins).length := by
      unfold gateS listS
      simp only [List.length_append, List.length_cons, List.length_nil]; omega
    simp only [List.flatMap_cons, List.length_append, List.length_cons, h4]
    omega
theorem alt_len : ∀ (p : List PBlock) (prev : Option Bool), altB prev p = true → p.length ≤ (varsOf p).length
  | [], prev, h => by simp
  | b :: p, prev, h => by
    rw [altB] at h
    simp only [Bool.and_eq_true, Bool.not_eq_true', List.isEmpty_eq_false_iff] at h
    have ih := alt_len p _ h.2
    have h4 : varsOf (b :: p) = b.vars ++ varsOf p := by simp [varsOf]
    have : b.vars.length ≠ 0 := fun e => h.1.1 (List.eq_nil_of_length_eq_zero e)
    rw [h4]
    simp only [List.length_append, List.length_cons]
    omega
theorem text_len {N : PNet} (hM : mayP N = true) : (textP N).length ≤ 18000 + 15 * N.gates.length + 8 * litSum N.gates := by
  obtain ⟨hpre, hlits, S, hS, hout⟩ := mayP_pre hM
  have hps : (prefFrom none 0 noS N.pre).isSome = true := by rw [hpre]; rfl
  obtain ⟨r1, r2⟩ := pre_rng hps
  obtain ⟨a1, _⟩ := preS_of hps
  have hal := alt_len _ _ a1
  have hb := blocks_len N.pre (fun b hb x hx => by
    have := r1 x (by unfold varsOf; rw [List.mem_flatMap]; exact ⟨b, hb, hx⟩)
    omega)
  have hm := may_lits hM
  have hg := gates_len N.gates (fun g hg => ⟨by
    have := (good_of_may _ hS).each g hg
    have := addB_iff.1 this.2
    omega, fun x hx => by
    have := absN_pos (hm.1 g hg x hx)
    omega⟩)
  have ho := litsP_len [N.out] (fun x hx => by
    rw [List.mem_singleton.1 hx]
    have := absN_pos hm.2
    omega)
  have e1 : headP.length = 9 := rfl
  have e2 : wOutput.length = 6 := rfl
  unfold textP
  simp only [List.length_append, listS, List.length_cons, List.length_nil, e1, e2] at ho ⊢
  omega
theorem nodup_le : ∀ (n : Nat) (l : List Nat), l.Pairwise (fun x y => x ≠ y) → (∀ x ∈ l, x < n) → l.length ≤ n
  | 0, l, _, h => by
    cases l with
    | nil => exact Nat.le_refl _
    | cons x l => exact absurd (h x (by simp)) (by omega)
  | n + 1, l, hd, h => by
    by_cases hn : n ∈ l
    · have hp := List.perm_cons_erase hn
      have hd2 := (hp.pairwise_iff (fun h => h.symm)).1 hd
      obtain ⟨h1, h2⟩ := List.pairwise_cons.1 hd2
      have := nodup_le n (l.erase n) h2 (fun x hx => by
        have := h x (hp.mem_iff.2 (List.mem_cons_of_mem _ hx))
        have := h1 x hx
        omega)
      have h3 := hp.length_eq
      simp only [List.length_cons] at h3
      omega
    · have := nodup_le n l hd (fun x hx => by
        have := h x hx
        have : x ≠ n := fun e => hn (e ▸ hx)
        omega)
      omega
theorem good_len {S : Nat → Bool} {gs : List PGate} (h : GoodG S gs) : gs.length ≤ 65537 := by
  have := nodup_le 65537 (gs.map fun g => g.var.toNat) (by
    rw [List.pairwise_map]
    refine h.diff.imp_of_mem (fun {x y} hx hy hne e => ?_)
    have h1 := addB_iff.1 (h.each x hx).2
    have h2 := addB_iff.1 (h.each y hy).2
    omega) (fun x hx => by
    obtain ⟨g, hg, rfl⟩ := List.mem_map.1 hx
    have h1 := addB_iff.1 (h.each g hg).2
    omega)
  simpa using this
theorem rok_len {R : RS} (h : ROk R) : litSum R.gates ≤ 4611686018427387904 ∧ R.gates.length ≤ 1000000 := by
  obtain ⟨S0, _, h2, _⟩ := h.vars
  have := good_len h2
  have := h.lits
  have := h.lim
  exact ⟨by omega, by omega⟩
end Go.Proofs.YtnlobmepajakcaaGreatDoor
namespace Go.Proofs.YtnlobmepajakcaaGreatDoor
open Go.RowKit Go.Shelf

/-- A line, and the line with spaces. -/
inductive L1 : Bs → Bs → Prop where
  | nil : L1 [] []
  | pun {c : UInt8} {a b : Nat} {l t : Bs} : isPun c = true → L1 l t → L1 (c :: l) (List.replicate a 32 ++ c :: (List.replicate b 32 ++ t))
  | other {c : UInt8} {l t : Bs} : isPun c = false → c ≠ 10 → L1 l t → L1 (c :: l) (c :: t)
theorem pun_cases {c : UInt8} (h : isPun c = true) : c = 40 ∨ c = 41 ∨ c = 44 ∨ c = 61 ∨ c = 45 := by
  unfold isPun at h
  simp only [Bool.or_eq_true, beq_iff_eq] at h
  rcases h with (((h | h) | h) | h) | h
  · exact .inl h
  · exact .inr (.inl h)
  · exact .inr (.inr (.inl h))
  · exact .inr (.inr (.inr (.inl h)))
  · exact .inr (.inr (.inr (.inr h)))
theorem pun_ne {c : UInt8} (h : isPun c = true) : c ≠ 32 ∧ c ≠ 10 ∧ c ≠ 35 ∧ isLow c = false ∧ isDig c = false := by
  rcases pun_cases h with rfl | rfl | rfl | rfl | rfl <;> decide
theorem L1.while {p : UInt8 → Bool} (hp : ∀ c, isPun c = true → p c = false) (h32 : p 32 = false) : ∀ {l t : Bs}, L1 l t → t.takeWhile p = l.takeWhile p ∧ L1 (l.dropWhile p) (t.dropWhile p)
  | _, _, .nil => ⟨rfl, .nil⟩
  | _, _, .pun (c := c) (a := a) (b := b) (t := t) hc h => by
    have e : (List.replicate a (32 : UInt8) ++ c :: (List.replicate b 32 ++ t)).takeWhile p = [] ∧ (List.replicate a (32 : UInt8) ++ c :: (List.replicate b 32 ++ t)).dropWhile p = List.replicate a (32 : UInt8) ++ c :: (List.replicate b 32 ++ t) := by
      cases a with
      | zero => simp [List.takeWhile_cons, List.dropWhile_cons, hp c hc]
      | succ a => simp [List.replicate_succ, List.takeWhile_cons, List.dropWhile_cons, h32]
    rw [e.1, e.2, List.takeWhile_cons, List.dropWhile_cons, hp c hc]
    exact ⟨by simp, by simpa using L1.pun hc h⟩
  | _, _, .other (c := c) hc h10 h => by
    obtain ⟨k1, k2⟩ := L1.while hp h32 h
    rw [List.takeWhile_cons, List.takeWhile_cons, List.dropWhile_cons, List.dropWhile_cons]
    by_cases hq : p c = true
    · rw [if_pos hq, if_pos hq, if_pos hq, if_pos hq, k1]
      exact ⟨rfl, k2⟩
    · rw [if_neg hq, if_neg hq, if_neg hq, if_neg hq]
      exact ⟨rfl, .other hc h10 h⟩
theorem tok_spaces : ∀ (a : Nat) (t : Bs), tokP (List.replicate a 32 ++ t) = tokP t
  | 0, t => rfl
  | a + 1, t => by rw [List.replicate_succ, List.cons_append, tok_space, tok_spaces a t]
theorem L1.tok (n : Nat) : ∀ {l t : Bs}, l.length ≤ n → L1 l t → tokP t = tokP l := by
  induction n with
  | zero =>
    intro l t hn h
    have : l = [] := List.eq_nil_of_length_eq_zero (by omega)
    subst this
    cases h
    rfl
  | succ n ih =>
    intro l t hn h
    cases h with
    | nil => rfl
    | pun hc h => rw [tok_spaces, pun_tok hc, pun_tok hc, tok_spaces, ih (by simpa using hn) h]
    | @other c l t hc h10 h =>
      have hl : l.length ≤ n := by simpa using hn
      have W := h.while (p := isLow) (fun c h => (pun_ne h).2.2.2.1) (by decide)
      have D := h.while (p := isDig) (fun c h => (pun_ne h).2.2.2.2) (by decide)
      have w1 := ih (Nat.le_trans (dropWhile_len _ _) hl) W.2
      have d1 := ih (Nat.le_trans (dropWhile_len _ _) hl) D.2
      have t1 := ih hl h
      rw [tok_cons, tok_cons, W.1, D.1, w1, d1, t1]
theorem L1.line {l t : Bs} (h : L1 l t) : scanL t = scanL l := by
  rw [scan_tok, scan_tok]
  unfold tokL
  rw [h.tok _ (Nat.le_refl _)]
inductive LsT : List Bs → List Bs → Prop where
  | nil : LsT [] []
  | both {l t : Bs} {ls ts : List Bs} : L1 l t → LsT ls ts → LsT (l :: ls) (t :: ts)
  | skip {t : Bs} {ls ts : List Bs} : blankB t = true → LsT ls ts → LsT ls (t :: ts)
/-- Lines whose first ones belong together. -/
def HdT : List Bs → List Bs → Prop
  | [], [] => True
  | l :: ls, t :: ts => L1 l t ∧ LsT ls ts
  | _, _ => False
theorem HdT.ls : ∀ {ls ts : List Bs}, HdT ls ts → LsT ls ts
  | [], [], _ => .nil
  | l :: ls, t :: ts, h => .both h.1 h.2
  | [], t :: ts, h => h.elim
  | l :: ls, [], h => h.elim
def consL (u : Bs) : List Bs → List Bs
  | [] => [u]
  | l :: ls => (u ++ l) :: ls
theorem HdT.cons {ls ts : List Bs} (h : HdT ls ts) {c : UInt8} {u : Bs} (hL : ∀ l t, L1 l t → L1 (c :: l) (u ++ t)) (hu : u ≠ []) : HdT (consL [c] ls) (consL u ts) := by
  cases ls with
  | nil => cases ts with
    | nil => exact ⟨by simpa using hL [] [] .nil, .nil⟩
    | cons t ts => exact h.elim
  | cons l ls => cases ts with
    | nil => exact h.elim
    | cons t ts => exact ⟨hL l t h.1, h.2⟩
structure SimR (a b : RS) : Prop where
  pre : a.pre = b.pre
  gates : a.gates = b.gates
  out : a.out = b.out
  seen : a.seen = b.seen
  vars : a.vars = b.vars
  lits : a.lits = b.lits
  begun : a.begun = b.begun
  done : a.done = b.done
  at_ : a.at_.length = b.at_.length
theorem SimR.refl (a : RS) : SimR a a := ⟨rfl, rfl, rfl, rfl, rfl, rfl, rfl, rfl, rfl⟩
theorem SimR.add {a b : RS} (h : SimR a b) (n m : Nat) (p : PLine) : (addL a n p).1 = (addL b m p).1 ∧ SimR (addL a n p).2 (addL b m p).2 := by
  obtain ⟨p1, g1, o1, s1, v1, l1, b1, d1, t1, u1⟩ := a
  obtain ⟨p2, g2, o2, s2, v2, l2, b2, d2, t2, u2⟩ := b
  obtain ⟨h1, h2, h3, h4, h5, h6, h7, h8, h9⟩ := h
  simp only at h1 h2 h3 h4 h5 h6 h7 h8 h9
  subst h1 h2 h3 h4 h5 h6 h7 h8
  cases p with
  | bad => exact ⟨rfl, rfl, rfl, rfl, rfl, rfl, rfl, rfl, rfl, h9⟩
  | gate v k l =>
    rw [addL, addL]
    simp only
    split
    · exact ⟨rfl, rfl, rfl, rfl, rfl, rfl, rfl, rfl, rfl, h9⟩
    · split
      · exact ⟨rfl, rfl, rfl, rfl, rfl, rfl, rfl, rfl, rfl, h9⟩
      · split
        · exact ⟨rfl, rfl, rfl, rfl, rfl, rfl, rfl, rfl, rfl, h9⟩
        · split
          · exact ⟨rfl, rfl, rfl, rfl, rfl, rfl, rfl, rfl, rfl, h9⟩
          · exact ⟨rfl, rfl, rfl, rfl, rfl, rfl, rfl, rfl, rfl, by simp [h9]⟩
  | out x =>
    rw [addL, addL]
    simp only
    split
    · exact ⟨rfl, rfl, rfl, rfl, rfl, rfl, rfl, rfl, rfl, h9⟩
    · exact ⟨rfl, rfl, rfl, rfl, rfl, rfl, rfl, rfl, rfl, h9⟩
  | block w l =>
    rw [addL, addL]
    simp only
    split
    · exact ⟨rfl, rfl, rfl, rfl, rfl, rfl, rfl, rfl, rfl, h9⟩
    · split
      · exact ⟨rfl, rfl, rfl, rfl, rfl, rfl, rfl, rfl, rfl, h9⟩
      · split
        · exact ⟨rfl, rfl, rfl, rfl, rfl, rfl, rfl, rfl, rfl, h9⟩
        · exact ⟨rfl, rfl, rfl, rfl, rfl, rfl, rfl, rfl, rfl, h9⟩
theorem stray_sim (S : Nat → Bool) : ∀ (gs : List PGate) (ns ms : List Nat), ns.length = ms.length → (strayP S gs ns).isSome = (strayP S gs ms).isSome
  | [], ns, ms, h => by cases ns <;> cases ms <;> rfl
  | g :: gs, [], [], h => rfl
  | g :: gs, n :: ns, [], h => by simp at h
  | g :: gs, [], m :: ms, h => by simp at h
  | g :: gs, n :: ns, m :: ms, h => by
    rw [strayP, strayP]
    split
    · rfl
    · exact stray_sim S gs ns ms (by simpa using h)
theorem SimR.end {a b : RS} (h : SimR a b) : (endR a).1 = (endR b).1 ∧ (endR a).2.2 = (endR b).2.2 := by
  obtain ⟨p1, g1, o1, s1, v1, l1, b1, d1, t1, u1⟩ := a
  obtain ⟨p2, g2, o2, s2, v2, l2, b2, d2, t2, u2⟩ := b
  obtain ⟨h1, h2, h3, h4, h5, h6, h7, h8, h9⟩ := h
  simp only at h1 h2 h3 h4 h5 h6 h7 h8 h9
  subst h1 h2 h3 h4 h5 h6 h7 h8
  have hs := stray_sim s1 g1 t1 t2 h9
  unfold endR
  simp only
  split
  · exact ⟨rfl, rfl⟩
  · split
    · exact ⟨rfl, rfl⟩
    · cases k1 : strayP s1 g1 t1 with
      | none =>
        cases k2 : strayP s1 g1 t2 with
        | none => simp only; unfold endO; split <;> exact ⟨rfl, rfl⟩
        | some n => rw [k1, k2] at hs; cases hs
      | some n =>
        cases k2 : strayP s1 g1 t2 with
        | none => rw [k1, k2] at hs; cases hs
        | some n => exact ⟨rfl, rfl⟩
end Go.Proofs.YtnlobmepajakcaaGreatDoor
