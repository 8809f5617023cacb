/- What the law CircMeans compares, in plain words: lists over lists, and that Simple, Cofactor and Compose keep the value; no condition. -/
import Derived.Test.YtnlobmepajakcaaSemC
import Derived.Test.YtnlobmepajakcaaRefA
set_option linter.unusedVariables false
set_option linter.unusedSimpArgs false
namespace Go.Proofs.Ytnlobmepajakcaa
open Go.RowKit Go.Shelf

/-! ### Lists over lists -/
/-- A literal goes to its place, if there is none of its variable. -/
def insV : List Int → Int → List Int
  | [], x => [x]
  | y :: ys, x => if absR y < absR x then y :: insV ys x else if absR y = absR x then y :: ys else x :: y :: ys
def overP (a b : List Int) : List Int := (b ++ a).foldl insV []
def withinP (a vars : List Int) : List Int := overP [] (a.filter fun x => decide (absI x ∈ vars))
/-- The variables go up. -/
def Srt (l : List Int) : Prop := l.Pairwise fun x y => absR x < absR y
/-- The first one of its variable. -/
def firstV : List Int → Int → Prop
  | [], _ => False
  | x :: l, z => z = x ∨ (absR x ≠ absR z ∧ firstV l z)
theorem insV_mem : ∀ {out : List Int} {x : Int}, Srt out → ∀ z, z ∈ insV out x ↔ z ∈ out ∨ (z = x ∧ ∀ y ∈ out, absR y ≠ absR x)
  | [], x, _, z => by simp [insV]
  | y :: ys, x, h, z => by
    have h1 := (List.pairwise_cons.1 h).1
    have h2 : Srt ys := (List.pairwise_cons.1 h).2
    unfold insV
    by_cases c1 : absR y < absR x
    · rw [if_pos c1, List.mem_cons, insV_mem h2, List.mem_cons]
      constructor
      · rintro (h | h | ⟨h, h3⟩)
        · exact .inl (.inl h)
        · exact .inl (.inr h)
        · refine .inr ⟨h, fun u hu => ?_⟩
          rcases List.mem_cons.1 hu with rfl | hu
          · omega
          · exact h3 u hu
      · rintro ((h | h) | ⟨h, h3⟩)
        · exact .inl h
        · exact .inr (.inl h)
        · exact .inr (.inr ⟨h, fun u hu => h3 u (.tail _ hu)⟩)
    · rw [if_neg c1]
      by_cases c2 : absR y = absR x
      · rw [if_pos c2]
        constructor
        · exact .inl
        · rintro (h | ⟨h, h3⟩)
          · exact h
          · exact absurd c2 (h3 y (.head _))
      · rw [if_neg c2, List.mem_cons]
        constructor
        · rintro (h | h)
          · refine .inr ⟨h, fun u hu => ?_⟩
            rcases List.mem_cons.1 hu with rfl | hu
            · exact c2
            · have := h1 u hu; omega
          · exact .inl h
        · rintro (h | ⟨h, _⟩)
          · exact .inr h
          · exact .inl h
theorem insV_srt : ∀ {out : List Int} {x : Int}, Srt out → Srt (insV out x)
  | [], x, _ => by simp [insV, Srt]
  | y :: ys, x, h => by
    have h1 := (List.pairwise_cons.1 h).1
    have h2 : Srt ys := (List.pairwise_cons.1 h).2
    unfold insV
    by_cases c1 : absR y < absR x
    · rw [if_pos c1]
      refine List.pairwise_cons.2 ⟨fun u hu => ?_, insV_srt h2⟩
      rcases (insV_mem h2 u).1 hu with hu | ⟨rfl, _⟩
      · exact h1 u hu
      · exact c1
    · rw [if_neg c1]
      by_cases c2 : absR y = absR x
      · rw [if_pos c2]; exact h
      · rw [if_neg c2]
        refine List.pairwise_cons.2 ⟨fun u hu => ?_, h⟩
        rcases List.mem_cons.1 hu with rfl | hu
        · omega
        · have := h1 u hu; omega
theorem foldV_srt : ∀ (l : List Int) {out : List Int}, Srt out → Srt (l.foldl insV out)
  | [], _, h => h
  | x :: l, _, h => foldV_srt l (insV_srt h)
theorem foldV_mem : ∀ (l : List Int) {out : List Int}, Srt out → ∀ z, z ∈ l.foldl insV out ↔ z ∈ out ∨ ((∀ y ∈ out, absR y ≠ absR z) ∧ firstV l z)
  | [], out, h, z => by simp [firstV]
  | x :: l, out, h, z => by
    rw [List.foldl_cons, foldV_mem l (insV_srt h), insV_mem h, show firstV (x :: l) z = (z = x ∨ (absR x ≠ absR z ∧ firstV l z)) from rfl]
    constructor
    · rintro ((h1 | ⟨rfl, h1⟩) | ⟨h1, h2⟩)
      · exact .inl h1
      · exact .inr ⟨h1, .inl rfl⟩
      · refine .inr ⟨fun y hy => h1 y ((insV_mem h y).2 (.inl hy)), .inr ⟨?_, h2⟩⟩
        intro e
        by_cases hx : ∀ y ∈ out, absR y ≠ absR x
        · exact h1 x ((insV_mem h x).2 (.inr ⟨rfl, hx⟩)) e
        · exact hx (fun y hy => by rw [e]; exact h1 y ((insV_mem h y).2 (.inl hy)))
    · rintro (h1 | ⟨h1, rfl | ⟨h2, h3⟩⟩)
      · exact .inl (.inl h1)
      · exact .inl (.inr ⟨rfl, h1⟩)
      · refine .inr ⟨fun y hy => ?_, h3⟩
        rcases (insV_mem h y).1 hy with hy | ⟨rfl, _⟩
        · exact h1 y hy
        · exact h2
theorem firstV_append : ∀ (b a : List Int) (z : Int), firstV (b ++ a) z ↔ firstV b z ∨ ((∀ y ∈ b, absR y ≠ absR z) ∧ firstV a z)
  | [], a, z => by simp [firstV]
  | x :: b, a, z => by
    rw [List.cons_append]
    simp only [firstV]
    rw [firstV_append b a z]
    constructor
    · rintro (h | ⟨h1, h2 | ⟨h2, h3⟩⟩)
      · exact .inl (.inl h)
      · exact .inl (.inr ⟨h1, h2⟩)
      · refine .inr ⟨fun y hy => ?_, h3⟩
        rcases List.mem_cons.1 hy with rfl | hy
        · exact h1
        · exact h2 y hy
    · rintro ((h | ⟨h1, h2⟩) | ⟨h1, h2⟩)
      · exact .inl h
      · exact .inr ⟨h1, .inl h2⟩
      · exact .inr ⟨h1 x (.head _), .inr ⟨fun y hy => h1 y (.tail _ hy), h2⟩⟩
theorem firstV_mem : ∀ {l : List Int} {z : Int}, firstV l z → z ∈ l
  | [], _, h => h.elim
  | x :: l, z, h => by
    rcases h with rfl | ⟨_, h⟩
    · exact .head _
    · exact .tail _ (firstV_mem h)
theorem firstV_srt : ∀ {l : List Int}, Srt l → ∀ z, firstV l z ↔ z ∈ l
  | [], _, z => by simp [firstV]
  | x :: l, h, z => by
    have h1 := (List.pairwise_cons.1 h).1
    have h2 : Srt l := (List.pairwise_cons.1 h).2
    rw [show firstV (x :: l) z = (z = x ∨ (absR x ≠ absR z ∧ firstV l z)) from rfl, firstV_srt h2, List.mem_cons]
    constructor
    · rintro (h | ⟨_, h⟩)
      · exact .inl h
      · exact .inr h
    · rintro (h | h)
      · exact .inl h
      · exact .inr ⟨by have := h1 z h; omega, h⟩
theorem over_srt (a b : List Int) : Srt (overP a b) := foldV_srt _ List.Pairwise.nil
theorem over_mem {a b : List Int} (ha : Srt a) (hb : Srt b) (z : Int) : z ∈ overP a b ↔ z ∈ b ∨ ((∀ y ∈ b, absR y ≠ absR z) ∧ z ∈ a) := by
  unfold overP
  rw [foldV_mem _ List.Pairwise.nil, firstV_append, firstV_srt ha, firstV_srt hb]
  simp
theorem over_sub {a b : List Int} {z : Int} (h : z ∈ overP a b) : z ∈ b ∨ z ∈ a := by
  unfold overP at h
  rw [foldV_mem _ List.Pairwise.nil] at h
  rcases h with h | ⟨_, h⟩
  · cases h
  · exact List.mem_append.1 (firstV_mem h)
/-- All variables are among S, and they go up. -/
structure Among (S : Nat → Bool) (l : List Int) : Prop where
  srt : Srt l
  mem : ∀ x ∈ l, S (absN x) = true
theorem within_among {N : PNet} (h : (prefFrom none 0 noS N.pre).isSome = true) (a : List Int) : Among (preS N) (withinP a (varsOf N.pre)) := by
  refine ⟨over_srt _ _, fun x hx => ?_⟩
  rcases over_sub hx with h1 | h1
  · have := (List.mem_filter.1 h1).2
    rw [preS_iff h]
    have e := absN_cast x
    rw [e]; exact this
  · cases h1
theorem Among.over {S : Nat → Bool} {a b : List Int} (ha : Among S a) (hb : Among S b) : Among S (overP a b) :=
  ⟨over_srt _ _, fun x hx => (over_sub hx).elim (hb.mem x) (ha.mem x)⟩
theorem Among.rng {S : Nat → Bool} {a : List Int} (h : Among S a) (hR : SetR S) : ∀ x ∈ a, 1 ≤ absN x := fun x hx => (hR _ (h.mem x hx)).1
theorem normFrom_of : ∀ {a : List Int} {last : Int}, Srt a → (∀ x ∈ a, 1 ≤ absN x) → 0 ≤ last → (∀ x ∈ a, last < absI x) → normFrom last a = true
  | [], _, _, _, _, _ => rfl
  | x :: a, last, h, hp, h0, hl => by
    have h1 := (List.pairwise_cons.1 h).1
    have h2 : Srt a := (List.pairwise_cons.1 h).2
    have hx := hl x (.head _)
    unfold normFrom
    rw [if_neg (by omega)]
    refine normFrom_of h2 (fun y hy => hp y (.tail _ hy)) (by omega) (fun y hy => ?_)
    have := h1 y hy
    rw [absR_eq (hp x (.head _)), absR_eq (hp y (.tail _ hy)), absN_cast, absN_cast] at this
    exact this
theorem Among.norm {S : Nat → Bool} {a : List Int} (h : Among S a) (hR : SetR S) : normFrom 0 a = true :=
  normFrom_of h.srt (h.rng hR) (Int.le_refl _) (fun x hx => by have := h.rng hR x hx; have := absN_cast x; omega)
/-! ### The values of variables -/
theorem valsA_not (S : Nat → Bool) : ∀ (l : List Int) (V : Nat → Bool) (i : Nat), (∀ y ∈ l, absN y ≠ i) → valsA S V l i = V i
  | [], V, i, _ => rfl
  | x :: l, V, i, h => by
    unfold valsA
    rw [valsA_not S l _ i (fun y hy => h y (.tail _ hy))]
    unfold upd
    rw [if_neg (fun e => h x (.head _) e.symm)]
theorem srt_abs {x : Int} {l : List Int} (h : Srt (x :: l)) (hp : ∀ y ∈ x :: l, 1 ≤ absN y) : ∀ y ∈ l, absN y ≠ absN x := fun y hy e => by
  have := (List.pairwise_cons.1 h).1 y hy
  rw [absR_eq (hp x (.head _)), absR_eq (hp y (.tail _ hy)), e] at this
  omega
theorem abs_or {x : Int} {i : Nat} (h : 1 ≤ absN x) (e : absN x = i) : (x = (i : Int) ∧ 0 < x) ∨ (x = -(i : Int) ∧ x < 0) := by
  have := absN_pos h
  unfold absN absI at e h
  omega
theorem absN_nat {i : Nat} (h1 : 1 ≤ i) (h2 : i ≤ 65536) : absN (i : Int) = i := by have := absN_of (v := (i : Int)) (by omega) (by omega); simpa using this
theorem vals_lit (S : Nat → Bool) : ∀ {l : List Int}, Srt l → (∀ x ∈ l, 1 ≤ absN x) → ∀ (V : Nat → Bool) (i : Nat), 1 ≤ i → i ≤ 65536 →
    valsA S V l i = if (i : Int) ∈ l then S i else if -(i : Int) ∈ l then false else V i
  | [], _, _, V, i, _, _ => by simp [valsA]
  | x :: l, h, hp, V, i, h1, h2 => by
    have hs : Srt l := (List.pairwise_cons.1 h).2
    have hpl := fun y hy => hp y (.tail _ hy)
    have hne := srt_abs h hp
    unfold valsA
    by_cases e : absN x = i
    · subst e
      rw [valsA_not S l _ _ hne]
      have n1 : ((absN x : Nat) : Int) ∉ l := fun hm => hne _ hm (absN_nat h1 h2)
      have n2 : (-((absN x : Nat) : Int)) ∉ l := fun hm => hne _ hm (by rw [absN_neg]; exact absN_nat h1 h2)
      unfold upd
      rw [if_pos rfl]
      rcases abs_or h1 rfl with ⟨e1, e2⟩ | ⟨e1, e2⟩
      · rw [if_pos (by rw [← e1]; exact .head _), decide_eq_true e2, Bool.true_and]
      · rw [if_neg (by rw [List.mem_cons]; rintro (e | e); omega; exact n1 e), if_pos (by rw [← e1]; exact .head _), decide_eq_false (by omega), Bool.false_and]
    · rw [vals_lit S hs hpl _ i h1 h2]
      have m1 : (i : Int) ∈ x :: l ↔ (i : Int) ∈ l := by
        rw [List.mem_cons]
        exact ⟨fun h => h.elim (fun h => absurd (by rw [← h]; exact absN_nat h1 h2) e) id, .inr⟩
      have m2 : -(i : Int) ∈ x :: l ↔ -(i : Int) ∈ l := by
        rw [List.mem_cons]
        exact ⟨fun h => h.elim (fun h => absurd (by rw [← h, absN_neg]; exact absN_nat h1 h2) e) id, .inr⟩
      simp only [m1, m2]
      have e3 : upd V (absN x) (decide (0 < x) && S (absN x)) i = V i := by unfold upd; rw [if_neg (fun e' => e e'.symm)]
      rw [e3]
theorem fixM_lit : ∀ {l : List Int}, Srt l → (∀ x ∈ l, 1 ≤ absN x) → ∀ (M : Nat → Int) (i : Nat), 1 ≤ i → i ≤ 65536 →
    fixM 65537 M l i = if (i : Int) ∈ l then 65537 else if -(i : Int) ∈ l then -65537 else M i
  | [], _, _, M, i, _, _ => by simp [fixM]
  | x :: l, h, hp, M, i, h1, h2 => by
    have hs : Srt l := (List.pairwise_cons.1 h).2
    have hpl := fun y hy => hp y (.tail _ hy)
    have hne := srt_abs h hp
    have ee : fixM 65537 M (x :: l) = fixM 65537 (upd M (absN x) (if x < 0 then -65537 else 65537)) l := rfl
    rw [ee, fixM_lit hs hpl _ i h1 h2]
    by_cases e : absN x = i
    · subst e
      have n1 : ((absN x : Nat) : Int) ∉ l := fun hm => hne _ hm (absN_nat h1 h2)
      have n2 : (-((absN x : Nat) : Int)) ∉ l := fun hm => hne _ hm (by rw [absN_neg]; exact absN_nat h1 h2)
      rw [if_neg n1, if_neg n2]
      unfold upd
      rw [if_pos rfl]
      rcases abs_or h1 rfl with ⟨e1, e2⟩ | ⟨e1, e2⟩
      · rw [if_neg (by omega), if_pos (by rw [← e1]; exact .head _)]
      · rw [if_pos e2, if_neg (by rw [List.mem_cons]; rintro (e | e); omega; exact n1 e), if_pos (by rw [← e1]; exact .head _)]
    · have m1 : (i : Int) ∈ x :: l ↔ (i : Int) ∈ l := by
        rw [List.mem_cons]
        exact ⟨fun h => h.elim (fun h => absurd (by rw [← h]; exact absN_nat h1 h2) e) id, .inr⟩
      have m2 : -(i : Int) ∈ x :: l ↔ -(i : Int) ∈ l := by
        rw [List.mem_cons]
        exact ⟨fun h => h.elim (fun h => absurd (by rw [← h, absN_neg]; exact absN_nat h1 h2) e) id, .inr⟩
      simp only [m1, m2]
      have e3 : upd M (absN x) (if x < 0 then -65537 else 65537) i = M i := by unfold upd; rw [if_neg (fun e' => e e'.symm)]
      rw [e3]
theorem evalP_ok {N : PNet} {a : List Int} (hM : mayP N = true) (hn : normFrom 0 a = true) : evalP N a = (holdsV (valsP N a) N.out, 0) := by
  unfold evalP; rw [hM, hn]; rfl
theorem holds_nat (V : Nat → Bool) {i : Nat} (h1 : 1 ≤ i) (h2 : i ≤ 65536) : holdsV V (i : Int) = V i := by
  unfold holdsV; rw [absN_nat h1 h2, decide_eq_true (by omega)]; cases V i <;> rfl
theorem mayP_some {N : PNet} (hM : mayP N = true) : (prefFrom none 0 noS N.pre).isSome = true := by rw [(mayP_pre hM).1]; rfl
theorem Among.weak {S T : Nat → Bool} {a : List Int} (h : Among S a) (hT : ∀ i, S i = true → T i = true) : Among T a := ⟨h.srt, fun x hx => hT _ (h.mem x hx)⟩
theorem normed {S : Nat → Bool} {a : List Int} (h : Among S a) (hR : SetR S) (N : PNet) (hM : mayP N = true) : evalP N a = (holdsV (valsP N a) N.out, 0) := evalP_ok hM (h.norm hR)
/-! ### What the three keep -/
theorem means_cof {N : PNet} (hM : mayP N = true) {a fx : List Int} (ha : Among (preS N) a) (hf : Among (preS N) fx) :
    cofactorP N fx = (simpleP 65537 N fx, 0) ∧ mayP (simpleP 65537 N fx) = true ∧ evalP (simpleP 65537 N fx) a = evalP N (overP a fx) ∧ (evalP (simpleP 65537 N fx) a).2 = 0 := by
  have hps := mayP_some hM
  have hR := preS_R hps
  have hpre : (simpleP 65537 N fx).pre = withoutP (markS noS fx) N.pre := by unfold simpleP endP; split <;> rfl
  have hpC : ∀ i, preS (simpleP 65537 N fx) i = (preS N i && !markS noS fx i) := fun i => by
    have := preS_without hps (markS noS fx) (simpleP 65537 N fx).gates (simpleP 65537 N fx).out i
    rw [← hpre] at this; exact this
  have hov := ha.over hf
  obtain ⟨h1, h2⟩ := simple_sem hM fx (valsA (preS (simpleP 65537 N fx)) noS a) (valsA (preS N) noS (overP a fx)) (fun i hi => by
    obtain ⟨r1, r2⟩ := hR i hi
    have hvm : varM noM (varsOf N.pre) i = (i : Int) := by rw [varM_id _ _ (pre_rng hps).1, if_pos (by rw [preS_iff hps] at hi; simpa using hi)]
    rw [fixM_lit hf.srt (hf.rng hR) _ i r1 r2, vals_lit _ hov.srt (hov.rng hR) _ i r1 r2, hvm]
    simp only [over_mem ha.srt hf.srt]
    by_cases c1 : (i : Int) ∈ fx
    · rw [if_pos c1, if_pos (.inl c1), hi]; rfl
    · rw [if_neg c1]
      by_cases c2 : -(i : Int) ∈ fx
      · rw [if_pos c2, if_neg, if_pos (.inl c2)]
        · rfl
        · rintro (h | ⟨h, _⟩)
          · exact c1 h
          · refine h _ c2 ?_
            rw [absR_eq (by rw [absN_neg, absN_nat r1 r2]; exact r1), absR_eq (by rw [absN_nat r1 r2]; exact r1), absN_neg]
      · rw [if_neg c2]
        have hno : ∀ y ∈ fx, absN y ≠ i := fun y hy e => by
          rcases abs_or (hf.rng hR y hy) e with ⟨e1, _⟩ | ⟨e1, _⟩
          · exact c1 (e1 ▸ hy)
          · exact c2 (e1 ▸ hy)
        have hno2 : ∀ z : Int, absN z = i → (∀ y ∈ fx, absR y ≠ absR z) := fun z hz y hy e => by
          rw [absR_eq (hf.rng hR y hy), absR_eq (by rw [hz]; exact r1), hz] at e
          exact hno y hy (by omega)
        have k1 := hno2 (i : Int) (absN_nat r1 r2)
        have k2 := hno2 (-(i : Int)) (by rw [absN_neg]; exact absN_nat r1 r2)
        have hmk : markS noS fx i = false := by
          rw [markS_up]
          simp only [noS, Bool.false_or, List.any_eq_false, beq_iff_eq]
          exact hno
        have e1 : mv (valsA (preS (simpleP 65537 N fx)) noS a) (i : Int) = valsA (preS (simpleP 65537 N fx)) noS a i := by
          rw [mv_lit (by omega) (by omega), holds_nat _ r1 r2]
        rw [e1, vals_lit _ ha.srt (ha.rng hR) _ i r1 r2, hpC i, hi, hmk]
        have q1 : ((i : Int) ∈ fx ∨ (∀ y ∈ fx, absR y ≠ absR (i : Int)) ∧ (i : Int) ∈ a) ↔ (i : Int) ∈ a := ⟨fun h => h.elim (fun h => absurd h c1) (·.2), fun h => .inr ⟨k1, h⟩⟩
        have q2 : (-(i : Int) ∈ fx ∨ (∀ y ∈ fx, absR y ≠ absR (-(i : Int))) ∧ -(i : Int) ∈ a) ↔ -(i : Int) ∈ a := ⟨fun h => h.elim (fun h => absurd h c2) (·.2), fun h => .inr ⟨k2, h⟩⟩
        simp only [q1, q2]
        rfl)
  have e1 := normed ha hR _ h1
  have e2 := normed hov hR _ hM
  refine ⟨?_, h1, ?_, by rw [e1]⟩
  · unfold cofactorP
    rw [hM, hf.norm hR, if_neg (by decide), if_neg]
    rw [List.any_eq_true]
    rintro ⟨x, hx, hx2⟩
    rw [hf.mem x hx] at hx2
    cases hx2
  · rw [e1, e2]
    show (holdsV (valsG _ _) _, _) = (holdsV (valsG _ _) _, _)
    rw [h2]
theorem among_nil (S : Nat → Bool) : Among S [] := ⟨List.Pairwise.nil, fun x hx => by cases hx⟩
theorem over_nil {a : List Int} (ha : Srt a) : ∀ z, z ∈ overP a [] ↔ z ∈ a := fun z => by rw [over_mem ha List.Pairwise.nil]; simp
theorem vals_congr {S : Nat → Bool} {a b : List Int} (ha : Among S a) (hb : Among S b) (hR : SetR S) (h : ∀ z, z ∈ a ↔ z ∈ b) : valsA S noS a = valsA S noS b := by
  funext i
  by_cases hi : 1 ≤ i ∧ i ≤ 65536
  · rw [vals_lit _ ha.srt (ha.rng hR) _ i hi.1 hi.2, vals_lit _ hb.srt (hb.rng hR) _ i hi.1 hi.2]
    simp only [h]
  · rw [valsA_not, valsA_not]
    · intro y hy e; exact hi (e ▸ hR _ (hb.mem y hy))
    · intro y hy e; exact hi (e ▸ hR _ (ha.mem y hy))
theorem means_simple {N : PNet} (hM : mayP N = true) {a : List Int} (ha : Among (preS N) a) :
    cofactorP N [] = (simpleP 65537 N [], 0) ∧ mayP (simpleP 65537 N []) = true ∧ evalP (simpleP 65537 N []) a = evalP N a ∧ (evalP N a).2 = 0 := by
  have hR := preS_R (mayP_some hM)
  obtain ⟨h1, h2, h3, h4⟩ := means_cof hM ha (among_nil _)
  have hov := ha.over (among_nil (preS N))
  refine ⟨h1, h2, ?_, by rw [normed ha hR _ hM]⟩
  rw [h3, normed hov hR _ hM, normed ha hR _ hM]
  unfold valsP
  rw [vals_congr hov ha hR (over_nil ha.srt)]
theorem means_comp {N M C : PNet} {v : Int} (h : composeP N v M = (C, 0)) {a : List Int} (ha : Among (preS N) a) :
    mayP N = true ∧ mayP M = true ∧ 1 ≤ v ∧ v ≤ 65536 ∧ (evalP M a).2 = 0 ∧ mayP C = true ∧ (evalP C a).2 = 0 ∧ evalP C a = evalP N (overP a [if (evalP M a).1 = true then v else -v]) := by
  -- the guards of Compose
  have key : mayP N = true ∧ mayP M = true ∧ 1 ≤ v ∧ preS N (absN v) = true ∧ ∀ i, preS M i = true → preS N i = true ∧ (i : Int) ≠ v := by
    unfold composeP at h
    by_cases c1 : (mayP N && mayP M) = false
    · rw [if_pos c1] at h; cases h
    rw [if_neg c1] at h
    by_cases c2 : v < 1 ∨ preS N (absN v) = false
    · rw [if_pos c2] at h; cases h
    rw [if_neg c2] at h
    by_cases c3 : ((varsOf M.pre).any fun x => decide (x = v) || !preS N x.toNat) = true
    · rw [if_pos c3] at h; cases h
    have hmm : mayP N = true ∧ mayP M = true := by simpa using c1
    obtain ⟨d1, d2⟩ := not_or.1 c2
    refine ⟨hmm.1, hmm.2, by omega, by simpa using d2, fun i hi => ?_⟩
    rw [preS_iff (mayP_some hmm.2)] at hi
    have hi' : (i : Int) ∈ varsOf M.pre := by simpa using hi
    have : ¬ ((decide ((i : Int) = v) || !preS N (i : Int).toNat) = true) := fun e => c3 (List.any_eq_true.2 ⟨_, hi', e⟩)
    simp only [Int.toNat_natCast, Bool.or_eq_true, decide_eq_true_eq, Bool.not_eq_true', not_or] at this
    exact ⟨by simpa using this.2, this.1⟩
  obtain ⟨hN, hMM, hv1, hvS, hsub⟩ := key
  have hps := mayP_some hN
  have hR := preS_R hps
  have hvr := hR _ hvS
  have hvb := absN_pos hvr.1
  have ev : absN v = v.toNat := absN_of (by omega) hvb.2.1
  have hnM : evalP M a = (holdsV (valsP M a) M.out, 0) := normed ha hR M hMM
  have hlit : Among (preS N) [if (evalP M a).1 = true then v else -v] := by
    refine ⟨List.pairwise_singleton _ _, fun x hx => ?_⟩
    rw [List.mem_singleton] at hx
    subst hx
    split
    · exact hvS
    · rw [absN_neg]; exact hvS
  have hov := ha.over hlit
  have hpre : C.pre = withoutP (upd noS v.toNat true) N.pre := by
    unfold composeP at h
    repeat' split at h
    all_goals first | (cases h; done) | (simp only [Prod.mk.injEq] at h; rw [← h.1]; rfl)
  have hpC : ∀ i, preS C i = (preS N i && !upd noS v.toNat true i) := fun i => by
    have := preS_without hps (upd noS v.toNat true) C.gates C.out i
    rw [← hpre] at this; exact this
  have CS := compose_sem h (valsA (preS C) noS a) (valsA (preS M) noS a) (valsA (preS N) noS (overP a [if (evalP M a).1 = true then v else -v]))
  have c1 : ∀ i, preS M i = true → valsA (preS M) noS a i = valsA (preS C) noS a i := by
    intro i hi
    obtain ⟨s1, s2⟩ := hsub i hi
    obtain ⟨r1, r2⟩ := hR i s1
    rw [vals_lit _ ha.srt (ha.rng hR) _ i r1 r2, vals_lit _ ha.srt (ha.rng hR) _ i r1 r2, hpC i, s1, hi]
    have : upd noS v.toNat true i = false := by unfold upd; rw [if_neg (by omega)]; rfl
    rw [this]; try rfl
  have c2 : ∀ i, preS N i = true → valsA (preS N) noS (overP a [if (evalP M a).1 = true then v else -v]) i = if (i : Int) = v then holdsV (valsG (valsA (preS M) noS a) M.gates) M.out else valsA (preS C) noS a i := by
    intro i hi
    obtain ⟨r1, r2⟩ := hR i hi
    rw [vals_lit _ hov.srt (hov.rng hR) _ i r1 r2]
    simp only [over_mem ha.srt hlit.srt]
    have hb : (evalP M a).1 = holdsV (valsG (valsA (preS M) noS a) M.gates) M.out := by rw [hnM]; rfl
    rw [← hb]
    generalize (evalP M a).1 = b
    by_cases e : (i : Int) = v
    · rw [if_pos e]
      cases b with
      | true =>
        rw [if_pos (.inl (by rw [e]; simp)), hi]
      | false =>
        rw [if_neg, if_pos (.inl (by rw [e]; simp))]
        rintro (h | ⟨h, _⟩)
        · simp at h; omega
        · refine h (-v) (by simp) ?_
          rw [e, absR_eq (by rw [absN_neg]; omega), absR_eq (by omega), absN_neg]
    · rw [if_neg e, vals_lit _ ha.srt (ha.rng hR) _ i r1 r2, hpC i, hi]
      have : upd noS v.toNat true i = false := by unfold upd; rw [if_neg (by omega)]; rfl
      rw [this]
      have hne : ∀ z : Int, absN z = i → (∀ y ∈ [if b = true then v else -v], absR y ≠ absR z) := fun z hz y hy e2 => by
        rw [List.mem_singleton] at hy
        have hy2 : absN y = v.toNat := by rw [hy]; split; exact ev; rw [absN_neg]; exact ev
        rw [absR_eq (by omega), absR_eq (by omega), hz, hy2] at e2
        omega
      have k1 := hne (i : Int) (absN_nat r1 r2)
      have k2 := hne (-(i : Int)) (by rw [absN_neg]; exact absN_nat r1 r2)
      have n1 : (i : Int) ∉ [if b = true then v else -v] := fun hm => k1 _ hm rfl
      have n2 : -(i : Int) ∉ [if b = true then v else -v] := fun hm => k2 _ hm rfl
      have q1 : ((i : Int) ∈ [if b = true then v else -v] ∨ (∀ y ∈ [if b = true then v else -v], absR y ≠ absR (i : Int)) ∧ (i : Int) ∈ a) ↔ (i : Int) ∈ a := ⟨fun h => h.elim (fun h => absurd h n1) (·.2), fun h => .inr ⟨k1, h⟩⟩
      have q2 : (-(i : Int) ∈ [if b = true then v else -v] ∨ (∀ y ∈ [if b = true then v else -v], absR y ≠ absR (-(i : Int))) ∧ -(i : Int) ∈ a) ↔ -(i : Int) ∈ a := ⟨fun h => h.elim (fun h => absurd h n2) (·.2), fun h => .inr ⟨k2, h⟩⟩
      simp only [q1, q2]
      rfl
  obtain ⟨k1, k2, k3, k4, k5, k6, k7⟩ := CS c1 c2
  refine ⟨hN, hMM, hv1, hvb.2.1, by rw [hnM], k5, by rw [normed ha hR C k5], ?_⟩
  rw [normed ha hR C k5, normed hov hR N hN]
  show (holdsV (valsG _ _) _, _) = (holdsV (valsG _ _) _, _)
  rw [k7]
end Go.Proofs.Ytnlobmepajakcaa
