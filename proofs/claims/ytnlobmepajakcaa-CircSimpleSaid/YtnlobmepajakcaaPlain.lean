/- What holds of a prefix and of a net that is valid, that the simplification is the same for each value that stands for what is always true, and what Compose gives; no condition. -/
import Derived.Test.YtnlobmepajakcaaSimpP
set_option linter.unusedVariables false
set_option linter.unusedSimpArgs false
namespace Go.Proofs.Ytnlobmepajakcaa
open Go.RowKit Go.Shelf

/-! ### A prefix that is valid -/
def altB : Option Bool → List PBlock → Bool
  | _, [] => true
  | prev, b :: bs => !b.vars.isEmpty && decide (prev ≠ some b.ex) && altB (some b.ex) bs
theorem addVars_append (ys : List Int) : ∀ (xs : List Int) (n : Nat) (S : Nat → Bool), addVars n S (xs ++ ys) = (addVars n S xs).bind fun r => addVars r.1 r.2 ys
  | [], n, S => rfl
  | x :: xs, n, S => by
    simp only [List.cons_append, addVars]
    split
    · rfl
    · split
      · exact addVars_append ys xs _ _
      · rfl
theorem prefFrom_eq : ∀ (p : List PBlock) (prev : Option Bool) (n : Nat) (S : Nat → Bool), prefFrom prev n S p = if altB prev p = true then (addVars n S (varsOf p)).map (·.2) else none
  | [], prev, n, S => rfl
  | b :: bs, prev, n, S => by
    unfold prefFrom altB
    by_cases h1 : b.vars = []
    · rw [if_pos h1, h1]; rfl
    · have h1' : b.vars.isEmpty = false := by simpa using h1
      rw [if_neg h1, h1']
      by_cases h2 : prev = some b.ex
      · rw [if_pos h2, decide_eq_false (by simpa using h2)]; rfl
      · rw [if_neg h2, decide_eq_true h2]
        have e : varsOf (b :: bs) = b.vars ++ varsOf bs := rfl
        rw [e, addVars_append]
        cases addVars n S b.vars with
        | none => simp
        | some r => simp only [Option.bind_some]; rw [prefFrom_eq bs]; rfl
/-- What is added is new and a variable. -/
theorem addVars_cons {n : Nat} {S : Nat → Bool} {v : Int} {vs : List Int} {r : Nat × (Nat → Bool)} (h : addVars n S (v :: vs) = some r) : n + 1 ≤ 1024 ∧ addB S v = true ∧ addVars (n + 1) (upd S v.toNat true) vs = some r := by
  unfold addVars at h
  split at h
  · cases h
  · split at h
    · rename_i h1 h2; exact ⟨by omega, h2, h⟩
    · cases h
theorem addB_iff {S : Nat → Bool} {v : Int} : addB S v = true ↔ 1 ≤ v ∧ v ≤ 65536 ∧ S v.toNat = false := by
  simp [addB, and_assoc]
theorem addVars_rng : ∀ (vs : List Int) {n : Nat} {S : Nat → Bool} {r : Nat × (Nat → Bool)}, addVars n S vs = some r → (∀ v ∈ vs, 1 ≤ v ∧ v ≤ 65536) ∧ (vs = [] ∨ n + vs.length ≤ 1024) ∧ r.1 = n + vs.length
  | [], n, S, r, h => by injection h with h; subst h; exact ⟨fun v hv => absurd hv (List.not_mem_nil), .inl rfl, rfl⟩
  | x :: xs, n, S, r, h => by
    obtain ⟨h1, h2, h3⟩ := addVars_cons h
    obtain ⟨k1, k2, k3⟩ := addVars_rng xs h3
    rw [addB_iff] at h2
    refine ⟨fun v hv => ?_, .inr ?_, by rw [k3, List.length_cons]; omega⟩
    · rcases List.mem_cons.1 hv with rfl | hv
      · exact ⟨h2.1, h2.2.1⟩
      · exact k1 v hv
    · rcases k2 with rfl | k2
      · simpa using h1
      · rw [List.length_cons]; omega
/-- Fewer variables can be added to a lesser set. -/
theorem addVars_sub : ∀ {ys xs : List Int}, ys.Sublist xs → ∀ {n m : Nat} {S T : Nat → Bool} {r : Nat × (Nat → Bool)}, addVars n S xs = some r → m ≤ n → (∀ i, T i = true → S i = true) → ∃ r', addVars m T ys = some r' := by
  intro ys xs hs
  induction hs with
  | slnil => intro n m S T r h hm hT; exact ⟨_, rfl⟩
  | cons a hs ih =>
    intro n m S T r h hm hT
    obtain ⟨h1, h2, h3⟩ := addVars_cons h
    exact ih h3 (by omega) (fun i hi => by unfold upd; split; rfl; exact hT i hi)
  | cons_cons a hs ih =>
    intro n m S T r h hm hT
    obtain ⟨h1, h2, h3⟩ := addVars_cons h
    obtain ⟨r', hr⟩ := ih (m := m + 1) (T := upd T a.toNat true) h3 (by omega) (fun i hi => by
      unfold upd at hi ⊢; split
      · rfl
      · rename_i hne; rw [if_neg hne] at hi; exact hT i hi)
    refine ⟨r', ?_⟩
    rw [addB_iff] at h2
    have h2' : addB T a = true := addB_iff.2 ⟨h2.1, h2.2.1, by
      cases ht : T a.toNat with
      | false => rfl
      | true => rw [hT _ ht] at h2; exact absurd h2.2.2 (by simp)⟩
    unfold addVars
    rw [if_neg (by omega), if_pos h2', hr]
/-- The set of what has been added. -/
theorem addVars_set : ∀ (vs : List Int) {n : Nat} {S : Nat → Bool} {r : Nat × (Nat → Bool)}, addVars n S vs = some r → ∀ i, r.2 i = (S i || decide ((i : Int) ∈ vs))
  | [], n, S, r, h, i => by injection h with h; subst h; simp
  | x :: xs, n, S, r, h, i => by
    obtain ⟨h1, h2, h3⟩ := addVars_cons h
    rw [addVars_set xs h3 i]
    rw [addB_iff] at h2
    unfold upd
    by_cases e : i = x.toNat
    · have : (i : Int) = x := by omega
      rw [if_pos e]; simp [this]
    · have : (i : Int) ≠ x := by omega
      rw [if_neg e]; simp [this]
theorem preS_of {N : PNet} (h : (prefFrom none 0 noS N.pre).isSome = true) : altB none N.pre = true ∧ ∃ r, addVars 0 noS (varsOf N.pre) = some r ∧ preS N = r.2 ∧ prefFrom none 0 noS N.pre = some r.2 := by
  rw [prefFrom_eq] at h
  by_cases ha : altB none N.pre = true
  · rw [if_pos ha] at h
    cases hr : addVars 0 noS (varsOf N.pre) with
    | none => rw [hr] at h; cases h
    | some r =>
      have e : prefFrom none 0 noS N.pre = some r.2 := by rw [prefFrom_eq, if_pos ha, hr]; rfl
      exact ⟨ha, r, rfl, by unfold preS; rw [e]; rfl, e⟩
  · rw [if_neg ha] at h; cases h
theorem preS_iff {N : PNet} (h : (prefFrom none 0 noS N.pre).isSome = true) (i : Nat) : preS N i = decide ((i : Int) ∈ varsOf N.pre) := by
  obtain ⟨_, r, hr, e, _⟩ := preS_of h
  rw [e, addVars_set _ hr]; simp [noS]
theorem pre_rng {N : PNet} (h : (prefFrom none 0 noS N.pre).isSome = true) : (∀ v ∈ varsOf N.pre, 1 ≤ v ∧ v ≤ 65536) ∧ (varsOf N.pre).length ≤ 1024 := by
  obtain ⟨_, r, hr, _, _⟩ := preS_of h
  obtain ⟨h1, h2, _⟩ := addVars_rng _ hr
  refine ⟨h1, ?_⟩
  rcases h2 with h2 | h2
  · rw [h2]; exact Nat.zero_le _
  · omega
theorem alt_ne : ∀ {p : List PBlock} {prev : Option Bool}, altB prev p = true → ∀ b ∈ p, b.vars ≠ []
  | [], _, _, b, hb => by cases hb
  | x :: xs, prev, h, b, hb => by
    simp only [altB, Bool.and_eq_true, Bool.not_eq_true'] at h
    rcases List.mem_cons.1 hb with rfl | hb
    · intro e; rw [e] at h; simp at h
    · exact alt_ne h.2 b hb
theorem blocks_le : ∀ {p : List PBlock}, (∀ b ∈ p, b.vars ≠ []) → p.length ≤ (varsOf p).length
  | [], _ => Nat.zero_le _
  | x :: xs, h => by
    have h1 := blocks_le (p := xs) (fun b hb => h b (.tail _ hb))
    have h2 : 0 < x.vars.length := List.length_pos_iff.2 (h x (.head _))
    have e : varsOf (x :: xs) = x.vars ++ varsOf xs := rfl
    rw [e, List.length_append, List.length_cons]; omega
theorem block_le : ∀ {p : List PBlock} {b : PBlock}, b ∈ p → b.vars.length ≤ (varsOf p).length ∧ ∀ y ∈ b.vars, y ∈ varsOf p
  | x :: xs, b, h => by
    have e : varsOf (x :: xs) = x.vars ++ varsOf xs := rfl
    rw [e, List.length_append]
    rcases List.mem_cons.1 h with rfl | h
    · exact ⟨by omega, fun y hy => List.mem_append_left _ hy⟩
    · have := block_le h
      exact ⟨by omega, fun y hy => List.mem_append_right _ (this.2 y hy)⟩
/-! ### A prefix without some variables -/
theorem varsOf_append (p q : List PBlock) : varsOf (p ++ q) = varsOf p ++ varsOf q := by simp [varsOf]
theorem gstep_vars (S : Nat → Bool) (out : List PBlock) (b : PBlock) : varsOf (gstep S out b) = varsOf out ++ keepV S b.vars := by
  unfold gstep
  rcases List.eq_nil_or_concat out with rfl | ⟨init, x, rfl⟩
  · simp only [List.getLast?_nil]
    split
    · rename_i h; rw [h]; simp [varsOf]
    · simp [varsOf]
  · simp only [List.concat_eq_append, List.getLast?_append, List.getLast?_singleton, Option.some_or, List.dropLast_concat]
    split
    · simp [varsOf_append, varsOf]
    · split
      · rename_i h; rw [h]; simp
      · simp [varsOf_append, varsOf]
theorem withoutP_vars (S : Nat → Bool) (p : List PBlock) : varsOf (withoutP S p) = keepV S (varsOf p) := by
  have : ∀ (p out : List PBlock), varsOf (p.foldl (gstep S) out) = varsOf out ++ keepV S (varsOf p) := by
    intro p
    induction p with
    | nil => intro out; simp [varsOf, keepV]
    | cons b p ih => intro out; rw [List.foldl_cons, ih, gstep_vars]; simp [varsOf, keepV, List.append_assoc]
  have := this p []
  simpa [withoutP, varsOf] using this
theorem altB_snoc : ∀ (p : List PBlock) (prev : Option Bool) (b : PBlock), altB prev (p ++ [b]) = (altB prev p && !b.vars.isEmpty && decide ((match p.getLast? with | some x => some x.ex | none => prev) ≠ some b.ex))
  | [], prev, b => by simp only [List.nil_append, altB, List.getLast?_nil, Bool.and_true, Bool.true_and]; congr
  | x :: xs, prev, b => by
    rw [List.cons_append, altB, altB_snoc xs, altB]
    have : (match (x :: xs).getLast? with | some x => some x.ex | none => prev) = (match xs.getLast? with | some y => some y.ex | none => some x.ex) := by
      cases xs with
      | nil => rfl
      | cons y ys => rw [List.getLast?_cons_cons]; cases h : (y :: ys).getLast? with
        | none => simp at h
        | some z => rfl
    rw [this]; simp only [Bool.and_assoc]
theorem gstep_alt (S : Nat → Bool) (out : List PBlock) (b : PBlock) (h : altB none out = true) : altB none (gstep S out b) = true := by
  unfold gstep
  rcases List.eq_nil_or_concat out with rfl | ⟨init, x, rfl⟩
  · simp only [List.getLast?_nil]
    split
    · exact h
    · rename_i h2
      have : (keepV S b.vars).isEmpty = false := by simpa using h2
      simp [altB, this]
  · simp only [List.concat_eq_append] at h
    simp only [List.concat_eq_append, List.getLast?_append, List.getLast?_singleton, Option.some_or, List.dropLast_concat]
    split
    · rw [altB_snoc] at h ⊢
      simp only [Bool.and_eq_true, Bool.not_eq_true', List.isEmpty_eq_false_iff] at h ⊢
      exact ⟨⟨h.1.1, by intro e; exact h.1.2 (List.append_eq_nil_iff.1 e).1⟩, h.2⟩
    · rename_i hx
      split
      · exact h
      · rename_i h2
        rw [altB_snoc, h]
        simp [h2, hx]
theorem withoutP_alt (S : Nat → Bool) (p : List PBlock) : altB none (withoutP S p) = true := by
  have : ∀ (p out : List PBlock), altB none out = true → altB none (p.foldl (gstep S) out) = true := by
    intro p
    induction p with
    | nil => intro out h; exact h
    | cons b p ih => intro out h; exact ih _ (gstep_alt S out b h)
  exact this p [] rfl
/-- The prefix without some variables is valid. -/
theorem without_some {p : List PBlock} (h : (prefFrom none 0 noS p).isSome = true) (S : Nat → Bool) : (prefFrom none 0 noS (withoutP S p)).isSome = true := by
  rw [prefFrom_eq] at h ⊢
  rw [if_pos (withoutP_alt S p), withoutP_vars]
  by_cases ha : altB none p = true
  · rw [if_pos ha] at h
    cases hr : addVars 0 noS (varsOf p) with
    | none => rw [hr] at h; cases h
    | some r =>
      obtain ⟨r', hr'⟩ := addVars_sub (List.filter_sublist : List.Sublist (keepV S (varsOf p)) (varsOf p)) hr (Nat.le_refl _) (fun i hi => hi)
      rw [show keepV S (varsOf p) = List.filter (fun v => !S v.toNat) (varsOf p) from rfl, hr']; rfl
  · rw [if_neg ha] at h; cases h
/-! ### The literals of a net that is valid -/
def SetR (S : Nat → Bool) : Prop := ∀ i, S i = true → 1 ≤ i ∧ i ≤ 65536
theorem SetR.upd {S : Nat → Bool} (h : SetR S) {v : Int} (hv : addB S v = true) : SetR (upd S v.toNat true) := fun i hi => by
  rw [addB_iff] at hv
  unfold Ytnlobmepajakcaa.upd at hi
  split at hi
  · omega
  · exact h i hi
theorem preS_R {N : PNet} (h : (prefFrom none 0 noS N.pre).isSome = true) : SetR (preS N) := fun i hi => by
  rw [preS_iff h] at hi
  have := (pre_rng h).1 i (by simpa using hi)
  omega
theorem absN_pos {l : Int} (h : 1 ≤ absN l) : -65536 ≤ l ∧ l ≤ 65536 ∧ l ≠ 0 := by unfold absN absI at h; omega
theorem mayGates_cons {S S' : Nat → Bool} {g : PGate} {gs : List PGate} (h : mayGates S (g :: gs) = some S') : shapedB g.kind g.ins.length = true ∧ (∀ l ∈ g.ins, S (absN l) = true) ∧ addB S g.var = true ∧ mayGates (upd S g.var.toNat true) gs = some S' := by
  unfold mayGates at h
  split at h
  · cases h
  · rename_i h1
    split at h
    · cases h
    · rename_i h2
      split at h
      · rename_i h3
        exact ⟨by simpa using h1, by simpa using h2, h3, h⟩
      · cases h
theorem mayGates_lits : ∀ (gs : List PGate) {S S' : Nat → Bool}, SetR S → mayGates S gs = some S' → SetR S' ∧ (∀ g ∈ gs, ∀ l ∈ g.ins, 1 ≤ absN l) ∧ (∀ i, S' i = (S i || gs.any fun g => decide (g.var = i)))
  | [], S, S', hS, h => by injection h with h; subst h; exact ⟨hS, fun g hg => absurd hg (List.not_mem_nil), fun i => by simp⟩
  | x :: gs, S, S', hS, h => by
    obtain ⟨h1, h2, h3, h4⟩ := mayGates_cons h
    obtain ⟨k1, k2, k3⟩ := mayGates_lits gs (hS.upd h3) h4
    refine ⟨k1, fun g hg l hl => ?_, fun i => ?_⟩
    · rcases List.mem_cons.1 hg with rfl | hg
      · exact (hS _ (h2 l hl)).1
      · exact k2 g hg l hl
    · rw [k3 i]
      rw [addB_iff] at h3
      unfold Ytnlobmepajakcaa.upd
      by_cases e : i = x.var.toNat
      · have : x.var = (i : Int) := by omega
        rw [if_pos e]; simp [this]
      · have : x.var ≠ (i : Int) := by omega
        rw [if_neg e]; simp [this]
theorem may_lits {N : PNet} (h : mayP N = true) : (∀ g ∈ N.gates, ∀ l ∈ g.ins, 1 ≤ absN l) ∧ 1 ≤ absN N.out := by
  obtain ⟨hp, _, S, hS, ho⟩ := mayP_pre h
  obtain ⟨k1, k2, k3⟩ := mayGates_lits _ (preS_R (by rw [hp]; rfl)) hS
  exact ⟨k2, (k1 _ ho).1⟩
/-! ### The reference's always is 1,000,000 -/
def ph (x : Int) : Int := if x = 65537 then 1000000 else if x = -65537 then -1000000 else x
def BI (x : Int) : Prop := -65537 ≤ x ∧ x ≤ 65537
theorem ph_neg (x : Int) : ph (-x) = -ph x := by unfold ph; repeat' split <;> omega
theorem ph_inj {x y : Int} (hx : BI x) (hy : BI y) : ph x = ph y ↔ x = y := by unfold ph BI at *; repeat' split <;> omega
theorem ph_T {x : Int} (hx : BI x) : ph x = 1000000 ↔ x = 65537 := by unfold ph BI at *; repeat' split <;> omega
theorem ph_F {x : Int} (hx : BI x) : ph x = -1000000 ↔ x = -65537 := by unfold ph BI at *; repeat' split <;> omega
theorem ph_0 {x : Int} (hx : BI x) : ph x = 0 ↔ x = 0 := by unfold ph BI at *; repeat' split <;> omega
theorem ph_id {x : Int} (h1 : x ≠ 65537) (h2 : x ≠ -65537) : ph x = x := by unfold ph; rw [if_neg h1, if_neg h2]
theorem BI.neg {x : Int} (h : BI x) : BI (-x) := by unfold BI at *; omega
theorem mem_ph {x : Int} {l : List Int} (hx : BI x) (hl : ∀ y ∈ l, BI y) : ph x ∈ l.map ph ↔ x ∈ l := by
  rw [List.mem_map]
  constructor
  · rintro ⟨y, hy, e⟩; rw [← (ph_inj (hl y hy) hx).1 e]; exact hy
  · intro h; exact ⟨x, h, rfl⟩
theorem gatherGo_ph {s : Int} (hs : BI s) : ∀ (ls out : List Int), (∀ y ∈ ls, BI y) → (∀ y ∈ out, BI y) → gatherGo (ph s) (out.map ph) (ls.map ph) = (gatherGo s out ls).map (·.map ph)
  | [], out, _, _ => rfl
  | l :: ls, out, hl, ho => by
    have hl0 := hl l (.head _)
    have hls := fun y hy => hl y (.tail _ hy)
    simp only [List.map_cons, gatherGo]
    rw [← ph_neg, ← ph_neg]
    simp only [ph_inj hl0 hs.neg, mem_ph hl0.neg ho, mem_ph hl0 ho, ne_eq, ph_inj hl0 hs]
    split
    · rfl
    · split
      · have := gatherGo_ph hs ls (out ++ [l]) hls (fun y hy => by
          rcases List.mem_append.1 hy with h | h
          · exact ho y h
          · rw [List.mem_singleton.1 h]; exact hl0)
        rw [List.map_append] at this
        exact this
      · exact gatherGo_ph hs ls out hls ho
theorem gatherGo_not {s : Int} : ∀ (ls out r : List Int), gatherGo s out ls = some r → (∀ x ∈ out, x ≠ s ∧ x ≠ -s) → ∀ x ∈ r, x ≠ s ∧ x ≠ -s
  | [], out, r, h, ho, x, hx => by
    have : out = r := by simpa [gatherGo] using h
    exact ho x (this ▸ hx)
  | l :: ls, out, r, h, ho, x, hx => by
    unfold gatherGo at h
    split at h
    · cases h
    · rename_i h1
      split at h
      · rename_i h2
        refine gatherGo_not ls _ r h (fun y hy => ?_) x hx
        rcases List.mem_append.1 hy with h3 | h3
        · exact ho y h3
        · rw [List.mem_singleton.1 h3]; exact ⟨h2.1, fun e => h1 (.inl e)⟩
      · exact gatherGo_not ls _ r h ho x hx
theorem gatherP_ph {s : Int} (hs : BI s) {ls : List Int} (h : ∀ y ∈ ls, BI y) : gatherP (ph s) (ls.map ph) = (ph (gatherP s ls).1, (gatherP s ls).2.map ph) := by
  have e := gatherGo_ph hs ls [] h (fun y hy => absurd hy List.not_mem_nil)
  unfold gatherP
  rw [List.map_nil] at e
  rw [e]
  cases gatherGo s [] ls with
  | none => simp [ph_neg]
  | some out =>
    match out with
    | [] => rfl
    | [x] => rfl
    | x :: y :: zs => rfl
theorem gatherP_not {s : Int} {ls : List Int} : ∀ x ∈ (gatherP s ls).2, x ≠ s ∧ x ≠ -s := by
  intro x hx
  unfold gatherP at hx
  cases hg : gatherGo s [] ls with
  | none => rw [hg] at hx; cases hx
  | some out =>
    rw [hg] at hx
    have := gatherGo_not ls [] out hg (fun x hx => absurd hx List.not_mem_nil)
    match out, this, hx with
    | [], this, hx => cases hx
    | [x], this, hx => cases hx
    | x :: y :: zs, this, hx => exact this _ hx
theorem simplP_ph {k : Int} {ls : List Int} (h : ∀ y ∈ ls, BI y) : simplP 1000000 k (ls.map ph) = (ph (simplP 65537 k ls).1, (simplP 65537 k ls).2.1, (simplP 65537 k ls).2.2.map ph) := by
  have e1 : (1000000 : Int) = ph 65537 := rfl
  have e2 : (-1000000 : Int) = ph (-65537) := rfl
  have b1 : BI 65537 := by unfold BI; omega
  have b2 : BI (-65537) := by unfold BI; omega
  have g1 : ∀ ls : List Int, (∀ y ∈ ls, BI y) → gatherP 1000000 (ls.map ph) = (ph (gatherP 65537 ls).1, (gatherP 65537 ls).2.map ph) := fun ls h => gatherP_ph b1 h
  have g2 : ∀ ls : List Int, (∀ y ∈ ls, BI y) → gatherP (-1000000) (ls.map ph) = (ph (gatherP (-65537) ls).1, (gatherP (-65537) ls).2.map ph) := fun ls h => gatherP_ph b2 h
  have two : ∀ a b : Int, BI a → BI b → ∀ y ∈ [a, b], BI y := fun a b ha hb y hy => by
    simp only [List.mem_cons, List.not_mem_nil, or_false] at hy
    rcases hy with rfl | rfl
    · exact ha
    · exact hb
  unfold simplP
  split
  · match ls, h with
    | [], h => rfl
    | [a], h => rfl
    | [a, b], h =>
      have ha := h a (by simp)
      have hb := h b (by simp)
      simp only [List.map_cons, List.map_nil]
      rw [← ph_neg b]
      simp only [ph_F ha, ph_T ha, ph_F hb, ph_T hb, ph_inj ha hb, ph_inj ha hb.neg]
      split
      · have : exclP 1000000 (ph a) (ph b) = ph (exclP 65537 a b) := by
          unfold exclP
          simp only [ph_F ha, ph_T ha, ph_F hb, ph_T hb, ph_inj ha hb]
          repeat' split
          all_goals first | rfl | exact (ph_neg _).symm
        rw [this]; rfl
      · rfl
    | a :: b :: c :: l, h => rfl
  · split
    · match ls, h with
      | [], h => rfl
      | [a], h => rfl
      | [a, b], h => rfl
      | [c, a, b], h =>
        have hc := h c (by simp)
        have ha := h a (by simp)
        have hb := h b (by simp)
        simp only [List.map_cons, List.map_nil]
        simp only [ph_T hc, ne_eq, ph_F hc, ph_inj ha hb, ph_T ha, ph_F ha, ph_T hb, ph_F hb]
        have p1 := g2 [c, b] (two c b hc hb)
        have p2 := g1 [-c, b] (two (-c) b hc.neg hb)
        have p3 := g2 [-c, a] (two (-c) a hc.neg ha)
        have p4 := g1 [c, a] (two c a hc ha)
        simp only [List.map_cons, List.map_nil, ph_neg] at p1 p2 p3 p4
        rw [p1, p2, p3, p4]
        repeat' split
        all_goals rfl
      | a :: b :: c :: d :: l, h => rfl
    · split
      · rw [g1 ls h]
      · rw [g2 ls h]
theorem simplP_id {k : Int} {ls : List Int} (hk : shapedB k ls.length = true) (h0 : (simplP 65537 k ls).1 = 0) (hn : ∀ y ∈ ls, y ≠ 0) : ∀ x ∈ (simplP 65537 k ls).2.2, x ≠ 65537 ∧ x ≠ -65537 := by
  have g1 : ∀ (ls : List Int) (x : Int), x ∈ (gatherP 65537 ls).2 → x ≠ 65537 ∧ x ≠ -65537 := fun ls x hx => gatherP_not x hx
  have g2 : ∀ (ls : List Int) (x : Int), x ∈ (gatherP (-65537) ls).2 → x ≠ 65537 ∧ x ≠ -65537 := fun ls x hx => by have := gatherP_not x hx; omega
  unfold shapedB at hk
  unfold simplP at h0 ⊢
  by_cases k3 : k = 3
  · subst k3
    simp only [if_true] at h0 ⊢
    match ls, hk, h0, hn with
    | [a, b], hk, h0, hn =>
      have ha := hn a (by simp)
      have hb := hn b (by simp)
      simp only at h0 ⊢
      split at h0
      · rename_i h1
        exfalso
        simp only [exclP] at h0
        repeat' split at h0
        all_goals omega
      · rename_i h1
        intro x hx
        simp only [not_or] at h1
        rw [if_neg (by simp only [not_or]; exact h1)] at hx
        simp only [List.mem_cons, List.not_mem_nil, or_false] at hx
        rcases hx with rfl | rfl
        · exact ⟨h1.2.1, h1.1⟩
        · exact ⟨h1.2.2.2.1, h1.2.2.1⟩
  · rw [if_neg k3] at h0 ⊢
    by_cases k4 : k = 4
    · subst k4
      simp only [if_true] at h0 ⊢
      match ls, hk, h0, hn with
      | [c, a, b], hk, h0, hn =>
        have hc := hn c (by simp)
        have ha := hn a (by simp)
        have hb := hn b (by simp)
        simp only at h0 ⊢
        intro x hx
        by_cases q1 : c = 65537 ∨ c ≠ -65537 ∧ a = b
        · rw [if_pos q1] at h0; exact absurd h0 ha
        · rw [if_neg q1] at h0 hx
          by_cases q2 : c = -65537
          · rw [if_pos q2] at h0; exact absurd h0 hb
          · rw [if_neg q2] at h0 hx
            by_cases q3 : a = 65537
            · rw [if_pos q3] at hx; exact g2 _ x hx
            · rw [if_neg q3] at hx
              by_cases q4 : a = -65537
              · rw [if_pos q4] at hx; exact g1 _ x hx
              · rw [if_neg q4] at hx
                by_cases q5 : b = 65537
                · rw [if_pos q5] at hx; exact g2 _ x hx
                · rw [if_neg q5] at hx
                  by_cases q6 : b = -65537
                  · rw [if_pos q6] at hx; exact g1 _ x hx
                  · rw [if_neg q6] at hx
                    simp only [List.mem_cons, List.not_mem_nil, or_false] at hx
                    rcases hx with rfl | rfl | rfl
                    · exact ⟨fun e => q1 (.inl e), q2⟩
                    · exact ⟨q3, q4⟩
                    · exact ⟨q5, q6⟩
    · rw [if_neg k4] at h0 ⊢
      by_cases k1 : k = 1
      · rw [if_pos k1]; exact g1 ls
      · rw [if_neg k1]; exact g2 ls
/-- No literal of the net means 0. -/
def NzM (M : Nat → Int) (S : Nat → Bool) : Prop := ∀ i, S i = true → M i ≠ 0
theorem meanL_ph (M : Nat → Int) (l : Int) : meanL (fun i => ph (M i)) l = ph (meanL M l) := by
  unfold meanL; split
  · rw [ph_neg]
  · rfl
theorem meanL_nz {M : Nat → Int} {S : Nat → Bool} (h : NzM M S) {l : Int} (hS : S (absN l) = true) (h1 : 1 ≤ absN l) : meanL M l ≠ 0 := by
  have hl := absN_pos h1
  have e : absN l = (if l < 0 then (-l).toNat else l.toNat) := by
    unfold absN absI
    rw [if_neg (by omega), if_neg (by omega)]
    split <;> rfl
  rw [e] at hS
  unfold meanL
  split
  · rename_i h2; rw [if_pos h2] at hS; have := h _ hS; omega
  · rename_i h2; rw [if_neg h2] at hS; exact h _ hS
theorem upd_ph (M : Nat → Int) (i : Nat) (x : Int) : (fun j => ph (upd M i x j)) = upd (fun j => ph (M j)) i (ph x) := by
  funext j; unfold upd; split <;> rfl
theorem gates_ph : ∀ (gs : List PGate) (M : Nat → Int) (S S' : Nat → Bool) (stay : List PGate), (∀ i, BI (M i)) → NzM M S → SetR S → mayGates S gs = some S' →
    (gs.foldl (gateStep 1000000) (fun i => ph (M i), stay)) = ((fun i => ph ((gs.foldl (gateStep 65537) (M, stay)).1 i)), (gs.foldl (gateStep 65537) (M, stay)).2) ∧ (∀ i, BI ((gs.foldl (gateStep 65537) (M, stay)).1 i)) ∧ NzM (gs.foldl (gateStep 65537) (M, stay)).1 S'
  | [], M, S, S', stay, hB, hN, hS, h => by injection h with h; subst h; exact ⟨rfl, hB, hN⟩
  | g :: gs, M, S, S', stay, hB, hN, hS, h => by
    obtain ⟨h1, h2, h3, h4⟩ := mayGates_cons h
    have hl : ∀ y ∈ g.ins.map (meanL M), BI y := fun y hy => by
      obtain ⟨l, _, rfl⟩ := List.mem_map.1 hy
      exact BndM.mean hB l
    have hz : ∀ y ∈ g.ins.map (meanL M), y ≠ 0 := fun y hy => by
      obtain ⟨l, hl, rfl⟩ := List.mem_map.1 hy
      exact meanL_nz hN (h2 l hl) (hS _ (h2 l hl)).1
    have em : g.ins.map (meanL fun i => ph (M i)) = (g.ins.map (meanL M)).map ph := by
      rw [List.map_map]; exact List.map_congr_left fun l _ => meanL_ph M l
    have hb := simplP_bnd (k := g.kind) hl
    rw [addB_iff] at h3
    have hvar : ph g.var = g.var := ph_id (by omega) (by omega)
    simp only [List.foldl_cons]
    have key : gateStep 1000000 (fun i => ph (M i), stay) g = ((fun i => ph ((gateStep 65537 (M, stay) g).1 i)), (gateStep 65537 (M, stay) g).2) := by
      unfold gateStep
      simp only
      rw [em, simplP_ph hl]
      simp only
      simp only [ph_0 hb.1]
      by_cases h0 : (simplP 65537 g.kind (g.ins.map (meanL M))).1 = 0
      · rw [if_pos h0, if_pos h0]
        have hid := simplP_id (by rw [List.length_map]; exact h1) h0 hz
        have e2 : (simplP 65537 g.kind (g.ins.map (meanL M))).2.2.map ph = (simplP 65537 g.kind (g.ins.map (meanL M))).2.2 := by
          conv => rhs; rw [← List.map_id (simplP 65537 g.kind (g.ins.map (meanL M))).2.2]
          exact List.map_congr_left fun x hx => ph_id (hid x hx).1 (hid x hx).2
        simp only [upd_ph, hvar, e2]
      · rw [if_neg h0, if_neg h0]
        simp only [upd_ph]
    rw [key]
    have hB' : ∀ i, BI ((gateStep 65537 (M, stay) g).1 i) := by
      unfold gateStep
      simp only
      split
      · exact BndM.upd hB _ (by omega) (by omega)
      · exact BndM.upd hB _ hb.1.1 hb.1.2
    have hN' : NzM (gateStep 65537 (M, stay) g).1 (upd S g.var.toNat true) := fun i hi => by
      unfold upd at hi
      unfold gateStep
      simp only
      split
      · simp only [upd]; split
        · omega
        · rename_i hne; rw [if_neg hne] at hi; exact hN i hi
      · rename_i h0
        simp only [upd]; split
        · exact h0
        · rename_i hne; rw [if_neg hne] at hi; exact hN i hi
    have := gates_ph gs (gateStep 65537 (M, stay) g).1 (upd S g.var.toNat true) S' (gateStep 65537 (M, stay) g).2 hB' hN' (hS.upd (addB_iff.2 h3)) h4
    exact this
theorem varM_ph : ∀ (vs : List Int) (M : Nat → Int), (∀ y ∈ vs, 1 ≤ y ∧ y ≤ 65536) → (∀ i, BI (M i)) → varM (fun i => ph (M i)) vs = (fun i => ph (varM M vs i)) ∧ (∀ i, BI (varM M vs i)) ∧ ∀ i, (M i ≠ 0 ∨ (i : Int) ∈ vs) → varM M vs i ≠ 0
  | [], M, h, hB => ⟨rfl, hB, fun i hi => hi.elim id (fun h => absurd h List.not_mem_nil)⟩
  | v :: vs, M, h, hB => by
    have hv := h v (.head _)
    have e := upd_ph M v.toNat v
    rw [ph_id (by omega) (by omega)] at e
    have ih := varM_ph vs (upd M v.toNat v) (fun y hy => h y (.tail _ hy)) (BndM.upd hB _ (by omega) (by omega))
    refine ⟨?_, ih.2.1, fun i hi => ih.2.2 i ?_⟩
    · show varM (upd (fun i => ph (M i)) v.toNat v) vs = _
      rw [← e]; exact ih.1
    · unfold upd
      by_cases e : i = v.toNat
      · rw [if_pos e]; left; omega
      · rw [if_neg e]
        rcases hi with hi | hi
        · exact .inl hi
        · rcases List.mem_cons.1 hi with hi | hi
          · omega
          · exact .inr hi
theorem fixM_ph : ∀ (a : List Int) (M : Nat → Int), (∀ i, BI (M i)) → fixM 1000000 (fun i => ph (M i)) a = (fun i => ph (fixM 65537 M a i)) ∧ (∀ i, BI (fixM 65537 M a i)) ∧ ∀ i, M i ≠ 0 → fixM 65537 M a i ≠ 0
  | [], M, hB => ⟨rfl, hB, fun i hi => hi⟩
  | l :: a, M, hB => by
    have e := upd_ph M (absN l) (if l < 0 then -65537 else 65537)
    have ih := fixM_ph a (upd M (absN l) (if l < 0 then -65537 else 65537)) (BndM.upd hB _ (by split <;> omega) (by split <;> omega))
    refine ⟨?_, ih.2.1, fun i hi => ih.2.2 i ?_⟩
    · show fixM 1000000 (upd (fun i => ph (M i)) (absN l) (if l < 0 then -1000000 else 1000000)) a = _
      have e2 : (if l < 0 then (-1000000 : Int) else 1000000) = ph (if l < 0 then -65537 else 65537) := by split <;> rfl
      rw [e2, ← e]; exact ih.1
    · unfold upd; split
      · split <;> omega
      · exact hi
theorem endP_ph {p : List PBlock} {o : Int} (ho : BI o) (stay : List PGate) : endP 1000000 p (ph o) stay = endP 65537 p o stay := by
  unfold endP
  simp only [ph_T ho, ph_F ho]
  split
  · rfl
  · rename_i h; rw [ph_id (fun e => h (.inl e)) (fun e => h (.inr e))]
/-- The reference's simplification is the program's. -/
theorem simpleM_ph {N : PNet} (hM : mayP N = true) (a : List Int) : simpleM 1000000 N a = ((fun i => ph ((simpleM 65537 N a).1 i)), (simpleM 65537 N a).2) ∧ (∀ i, BI ((simpleM 65537 N a).1 i)) ∧ ∃ S, mayGates (preS N) N.gates = some S ∧ S (absN N.out) = true ∧ NzM (simpleM 65537 N a).1 S := by
  obtain ⟨hp, _, S, hS, ho⟩ := mayP_pre hM
  have hps : (prefFrom none 0 noS N.pre).isSome = true := by rw [hp]; rfl
  have hv := varM_ph (varsOf N.pre) noM (pre_rng hps).1 (fun i => by unfold BI noM; omega)
  have hf := fixM_ph a (varM noM (varsOf N.pre)) hv.2.1
  have hg := gates_ph N.gates (fixM 65537 (varM noM (varsOf N.pre)) a) (preS N) S [] hf.2.1 (fun i hi => by
    rw [preS_iff hps] at hi
    exact hf.2.2 i (hv.2.2 i (.inr (by simpa using hi)))) (preS_R hps) hS
  have e0 : (fun i => ph (noM i)) = noM := rfl
  rw [e0] at hv
  unfold simpleM gatesP
  have e1 : fixM 1000000 (varM noM (varsOf N.pre)) a = (fun i => ph (fixM 65537 (varM noM (varsOf N.pre)) a i)) := by
    have h2 := hf.1
    rw [← hv.1] at h2
    exact h2
  rw [e1]
  exact ⟨hg.1, hg.2.1, S, hS, ho, hg.2.2⟩
theorem simpleP_ph {N : PNet} (hM : mayP N = true) (a : List Int) : simpleP 1000000 N a = simpleP 65537 N a := by
  obtain ⟨h1, h2, _⟩ := simpleM_ph hM a
  unfold simpleP
  rw [h1]
  simp only
  rw [meanL_ph, endP_ph]
  exact BndM.mean h2 N.out
/-! ### What Compose gives -/
def nameP (to : Int → Option Int) (l : Int) : Int := match to (absI l) with | none => l | some x => if l < 0 then -x else x
def updO (to : Int → Option Int) (k x : Int) : Int → Option Int := fun i => if i = k then some x else to i
def noTo : Int → Option Int := fun _ => none
def nameG (to : Int → Option Int) (x : Int) (g : PGate) : PGate := ⟨x, g.kind, g.ins.map (nameP to)⟩
def compGo (used : Nat → Bool) : Nat → (Int → Option Int) → List PGate → List PGate → Option (List PGate × (Int → Option Int))
  | _, to, out, [] => some (out, to)
  | next, to, out, g :: gs => if freeI used (next + 1) < 0 then none else
      compGo used (next + (freeI used (next + 1)).toNat + 1) (updO to g.var (next + freeI used (next + 1) + 1)) (out ++ [nameG to (next + freeI used (next + 1) + 1) g]) gs
def usedG (S : Nat → Bool) (gs : List PGate) : Nat → Bool := gs.foldl (fun S g => upd S g.var.toNat true) S
def noNet : PNet := ⟨[], [], 0⟩
def compEnd (N : PNet) (v : Int) (M : PNet) (r : List PGate × (Int → Option Int)) : PNet :=
  ⟨withoutP (upd noS v.toNat true) N.pre, r.1 ++ N.gates.map (fun g => nameG (updO noTo v (nameP r.2 M.out)) g.var g), nameP (updO noTo v (nameP r.2 M.out)) N.out⟩
def composeP (N : PNet) (v : Int) (M : PNet) : PNet × Int :=
  if (mayP N && mayP M) = false then (noNet, 2) else if v < 1 ∨ preS N (absN v) = false then (noNet, 6) else
  if ((varsOf M.pre).any fun x => decide (x = v) || !preS N x.toNat) = true then (noNet, 4) else
  if 200000 < litSum N.gates + litSum M.gates then (noNet, 3) else
  match compGo (usedG (preS N) N.gates) 0 noTo [] M.gates with
  | none => (noNet, 3)
  | some r => (compEnd N v M r, 0)
def cofactorP (N : PNet) (a : List Int) : PNet × Int :=
  if (mayP N && normFrom 0 a) = false then (noNet, 2) else if (a.any fun l => !preS N (absN l)) = true then (noNet, 6) else (simpleP 65537 N a, 0)
theorem freeI_at {S : Nat → Bool} {o k : Nat} (h : S (o + k) = false) (hj : ∀ j, j < k → S (o + j) = true) (hlt : o + k < 65537) : freeI S o = k := by
  unfold freeI
  have : freeFrom S o = some k := by
    unfold freeFrom
    rw [List.find?_eq_some_iff_getElem]
    refine ⟨by rw [h]; rfl, k, by simp; omega, by simp, fun j hj' => ?_⟩
    simp [hj j hj']
  rw [this]
/-! ### The chapter's examples -/
def exN : PNet := ⟨[⟨true, [1]⟩, ⟨false, [2]⟩, ⟨true, [3]⟩], [⟨4, 1, [1, -2]⟩, ⟨5, 4, [4, 3, -3]⟩], 5⟩
def exM : PNet := ⟨[⟨false, [2]⟩], [⟨9, 2, [2]⟩], -9⟩
def exO : PNet := ⟨[⟨true, [1]⟩], [⟨7, 1, []⟩], -7⟩
theorem ex1 : cofactorP exN [2] = (⟨[⟨true, [1, 3]⟩], [], -3⟩, 0) := by decide +kernel
theorem ex2 : cofactorP exN [-2] = (⟨[⟨true, [1, 3]⟩], [⟨5, 4, [1, 3, -3]⟩], 5⟩, 0) := by decide +kernel
theorem ex3 : composeP exN 3 exM = (⟨[⟨true, [1]⟩, ⟨false, [2]⟩], [⟨6, 2, [2]⟩, ⟨4, 1, [1, -2]⟩, ⟨5, 4, [4, -6, 6]⟩], 5⟩, 0) := by
  have f : freeI (usedG (preS exN) exN.gates) 1 = (5 : Nat) := freeI_at (by decide) (by decide) (by decide)
  have c : compGo (usedG (preS exN) exN.gates) 0 noTo [] exM.gates = some ([⟨6, 2, [2]⟩], updO noTo 9 6) := by
    show compGo (usedG (preS exN) exN.gates) 0 noTo [] [⟨9, 2, [2]⟩] = _
    unfold compGo compGo
    rw [Nat.zero_add, f]
    rfl
  unfold composeP
  rw [if_neg (by decide), if_neg (by decide), if_neg (by decide), if_neg (by decide), c]
  decide
theorem ex4 : cofactorP exO [] = (⟨[⟨true, [1]⟩], [⟨2, 1, []⟩], -2⟩, 0) := by
  have f : freeI ((prefFrom none 0 noS (withoutP (markS noS []) exO.pre)).getD noS) 1 = (1 : Nat) := freeI_at (by decide) (by decide) (by decide)
  have e : meanL (simpleM 65537 exO []).1 exO.out = -65537 := by decide
  unfold cofactorP
  rw [if_neg (by decide), if_neg (by decide)]
  unfold simpleP
  rw [e]
  unfold endP
  rw [if_pos (.inr rfl), f]
  decide
end Go.Proofs.Ytnlobmepajakcaa
