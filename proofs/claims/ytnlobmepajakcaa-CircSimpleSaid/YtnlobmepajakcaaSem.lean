/- The simplification of a net is valid and has the value of the net; no condition but that the net is valid. -/
import Derived.Test.YtnlobmepajakcaaPlain
set_option linter.unusedVariables false
set_option linter.unusedSimpArgs false
namespace Go.Proofs.Ytnlobmepajakcaa
open Go.RowKit Go.Shelf

/-! ### What a meaning is worth -/
def mv (V : Nat → Bool) (x : Int) : Bool := if x = 65537 then true else if x = -65537 then false else holdsV V x
theorem absN_neg (l : Int) : absN (-l) = absN l := by unfold absN absI; congr 1; repeat' split <;> omega
theorem holdsV_neg {V : Nat → Bool} {l : Int} (h : l ≠ 0) : holdsV V (-l) = !holdsV V l := by
  unfold holdsV
  rw [absN_neg]
  have : decide (0 < -l) = !decide (0 < l) := by
    by_cases h2 : 0 < l
    · rw [decide_eq_true h2, decide_eq_false (by omega)]; rfl
    · rw [decide_eq_false h2, decide_eq_true (by omega)]; rfl
  rw [this]
  cases V (absN l) <;> cases decide (0 < l) <;> rfl
theorem mv_neg {V : Nat → Bool} {x : Int} (h : x ≠ 0) : mv V (-x) = !mv V x := by
  unfold mv
  by_cases h1 : x = 65537
  · rw [h1]; rfl
  · by_cases h2 : x = -65537
    · rw [h2]; rfl
    · rw [if_neg (by omega), if_neg (by omega), if_neg h1, if_neg h2, holdsV_neg h]
theorem mv_lit {V : Nat → Bool} {x : Int} (h1 : x ≠ 65537) (h2 : x ≠ -65537) : mv V x = holdsV V x := by unfold mv; rw [if_neg h1, if_neg h2]
/-- The value of a gate, by that of literals. -/
def gateW (f : Int → Bool) (kind : Int) (ins : List Int) : Bool :=
  if kind = 1 then ins.all f else if kind = 2 then ins.any f else if kind = 3 then
    (match ins with | [x, y] => f x != f y | _ => false) else (match ins with | [x, y, z] => if f x then f y else f z | _ => false)
theorem gateV_W (V : Nat → Bool) (k : Int) (ins : List Int) : gateV V k ins = gateW (holdsV V) k ins := by
  unfold gateV gateW
  split
  · rw [List.not_any_eq_all_not]; simp
  · rfl
theorem gateW_congr {f g : Int → Bool} {ins : List Int} (k : Int) (h : ∀ x ∈ ins, f x = g x) : gateW f k ins = gateW g k ins := by
  unfold gateW
  split
  · rw [Bool.eq_iff_iff]; simp only [List.all_eq_true]; exact ⟨fun h1 x hx => by rw [← h x hx]; exact h1 x hx, fun h1 x hx => by rw [h x hx]; exact h1 x hx⟩
  · split
    · rw [Bool.eq_iff_iff]; simp only [List.any_eq_true]; exact ⟨fun ⟨x, hx, h1⟩ => ⟨x, hx, by rw [← h x hx]; exact h1⟩, fun ⟨x, hx, h1⟩ => ⟨x, hx, by rw [h x hx]; exact h1⟩⟩
    · split
      · match ins, h with
        | [x, y], h => simp only; rw [h x (by simp), h y (by simp)]
        | [], _ => rfl
        | [_], _ => rfl
        | _ :: _ :: _ :: _, _ => rfl
      · match ins, h with
        | [x, y, z], h => simp only; rw [h x (by simp), h y (by simp), h z (by simp)]
        | [], _ => rfl
        | [_], _ => rfl
        | [_, _], _ => rfl
        | _ :: _ :: _ :: _ :: _, _ => rfl
theorem gateW_map (f : Int → Bool) (m : Int → Int) (k : Int) (ins : List Int) : gateW f k (ins.map m) = gateW (fun x => f (m x)) k ins := by
  unfold gateW
  split
  · rw [List.all_map]; rfl
  · split
    · rw [List.any_map]; rfl
    · split
      · match ins with
        | [x, y] => rfl
        | [] => rfl
        | [_] => rfl
        | _ :: _ :: _ :: _ => rfl
      · match ins with
        | [x, y, z] => rfl
        | [] => rfl
        | [_] => rfl
        | [_, _] => rfl
        | _ :: _ :: _ :: _ :: _ => rfl
/-! ### Gathering keeps the value -/
theorem gatherGo_all {g : Int → Bool} {s : Int} (h1 : g s = true) (h2 : g (-s) = false) : ∀ (ls out : List Int), (∀ x ∈ out ++ ls, g (-x) = !g x) →
    match gatherGo s out ls with | none => (out ++ ls).all g = false | some r => r.all g = (out ++ ls).all g
  | [], out, hn => by simp [gatherGo]
  | l :: ls, out, hn => by
    unfold gatherGo
    by_cases c1 : l = -s ∨ -l ∈ out
    · rw [if_pos c1]
      simp only
      rcases c1 with c1 | c1
      · rw [List.all_append, List.all_cons, c1, h2]; simp
      · have e := hn l (by simp)
        rw [List.all_append, List.all_cons]
        cases hgl : g l with
        | false => simp
        | true =>
          rw [hgl] at e
          have : out.all g = false := by
            rw [List.all_eq_false]; exact ⟨-l, c1, by rw [e]; simp⟩
          rw [this]; rfl
    · rw [if_neg c1]
      by_cases c2 : l ≠ s ∧ l ∉ out
      · rw [if_pos c2]
        have := gatherGo_all h1 h2 ls (out ++ [l]) (by rw [List.append_assoc]; exact hn)
        rw [List.append_assoc] at this
        exact this
      · rw [if_neg c2]
        have := gatherGo_all h1 h2 ls out (fun x hx => hn x (by
          rcases List.mem_append.1 hx with h | h
          · exact List.mem_append_left _ h
          · exact List.mem_append_right _ (.tail _ h)))
        have e : (out ++ ls).all g = (out ++ l :: ls).all g := by
          rw [List.all_append, List.all_append, List.all_cons]
          by_cases c3 : l = s
          · rw [c3, h1]; simp
          · have c4 : l ∈ out := by
              apply Classical.byContradiction
              intro h; exact c2 ⟨c3, h⟩
            cases ho : out.all g with
            | false => rfl
            | true => rw [List.all_eq_true.1 ho l c4]; simp
        rw [← e]; exact this
theorem gatherP_all {g : Int → Bool} {s : Int} (hs : s ≠ 0) (h1 : g s = true) (h2 : g (-s) = false) {ls : List Int} (hz : ∀ x ∈ ls, x ≠ 0) (hn : ∀ x ∈ ls, g (-x) = !g x) :
    ((gatherP s ls).1 ≠ 0 → g (gatherP s ls).1 = ls.all g) ∧ ((gatherP s ls).1 = 0 → (gatherP s ls).2.all g = ls.all g) := by
  have := gatherGo_all h1 h2 ls [] hn
  rw [List.nil_append] at this
  unfold gatherP
  cases hg : gatherGo s [] ls with
  | none => rw [hg] at this; exact ⟨fun _ => by rw [this]; exact h2, fun h => by simp only at h; omega⟩
  | some out =>
    rw [hg] at this
    simp only at this ⊢
    have hsub : ∀ x ∈ out, x ∈ ls := fun x hx => by
      rcases gatherGo_sub ls [] out hg x hx with h | h
      · cases h
      · exact h
    match out, this, hsub with
    | [], this, _ => exact ⟨fun _ => by rw [← this]; exact h1, fun h => absurd h hs⟩
    | [x], this, hsub => exact ⟨fun _ => by rw [← this]; simp [gatherEnd], fun h => absurd h (hz x (hsub x (by simp)))⟩
    | x :: y :: zs, this, _ => exact ⟨fun h => absurd rfl h, fun _ => this⟩
theorem simplP_sem {V : Nat → Bool} {k : Int} {ls : List Int} (hk : shapedB k ls.length = true) (hz : ∀ x ∈ ls, x ≠ 0) :
    ((simplP 65537 k ls).1 ≠ 0 → mv V (simplP 65537 k ls).1 = gateW (mv V) k ls) ∧ ((simplP 65537 k ls).1 = 0 → gateW (mv V) (simplP 65537 k ls).2.1 (simplP 65537 k ls).2.2 = gateW (mv V) k ls) := by
  have T1 : mv V 65537 = true := rfl
  have T2 : mv V (-65537) = false := rfl
  have gA : ∀ ls : List Int, (∀ x ∈ ls, x ≠ 0) → ((gatherP 65537 ls).1 ≠ 0 → mv V (gatherP 65537 ls).1 = ls.all (mv V)) ∧ ((gatherP 65537 ls).1 = 0 → (gatherP 65537 ls).2.all (mv V) = ls.all (mv V)) :=
    fun ls h => gatherP_all (by omega) T1 T2 h (fun x hx => mv_neg (h x hx))
  have gO : ∀ ls : List Int, (∀ x ∈ ls, x ≠ 0) → ((gatherP (-65537) ls).1 ≠ 0 → mv V (gatherP (-65537) ls).1 = ls.any (mv V)) ∧ ((gatherP (-65537) ls).1 = 0 → (gatherP (-65537) ls).2.any (mv V) = ls.any (mv V)) :=
    fun ls h => by
      have := gatherP_all (g := fun x => !mv V x) (s := -65537) (by omega) (by simp [T2]) (by simp [T1]) h (fun x hx => by rw [mv_neg (h x hx)])
      refine ⟨fun h0 => ?_, fun h0 => ?_⟩
      · have := this.1 h0
        rw [← List.not_any_eq_all_not] at this
        exact Bool.not_inj this
      · have := this.2 h0
        rw [← List.not_any_eq_all_not, ← List.not_any_eq_all_not] at this
        exact Bool.not_inj this
  have two : ∀ a b : Int, a ≠ 0 → b ≠ 0 → ∀ y ∈ [a, b], y ≠ 0 := fun a b ha hb y hy => by
    simp only [List.mem_cons, List.not_mem_nil, or_false] at hy
    rcases hy with rfl | rfl
    · exact ha
    · exact hb
  unfold shapedB at hk
  unfold simplP
  by_cases k3 : k = 3
  · subst k3
    simp only [if_true, Int.reduceEq, if_false, decide_eq_true_eq] at hk ⊢
    match ls, hk, hz with
    | [a, b], hk, hz =>
      have ha := hz a (by simp)
      have hb := hz b (by simp)
      have e : gateW (mv V) 3 [a, b] = (mv V a != mv V b) := rfl
      simp only
      split
      · rename_i h
        simp only
        rw [e]
        have : mv V (exclP 65537 a b) = (mv V a != mv V b) := by
          unfold exclP
          split
          · rename_i q; rw [q, T2]; simp
          · split
            · rename_i q; rw [q, T1, mv_neg hb]; simp
            · split
              · rename_i q; rw [q, T2]; simp
              · split
                · rename_i q; rw [q, T1, mv_neg ha]; simp
                · split
                  · rename_i q; rw [q, T2]; simp
                  · rename_i q1 q2 q3 q4 q5
                    have q6 : a = -b := by
                      rcases h with h | h | h | h | h | h <;> first | exact h | contradiction
                    rw [q6, T1, mv_neg hb]; simp
        refine ⟨fun _ => this, fun h0 => ?_⟩
        exfalso
        unfold exclP at h0
        repeat' split at h0
        all_goals omega
      · exact ⟨fun h => absurd rfl h, fun _ => rfl⟩
  · rw [if_neg k3]
    by_cases k4 : k = 4
    · subst k4
      simp only [if_true, Int.reduceEq, if_false, decide_eq_true_eq] at hk ⊢
      match ls, hk, hz with
      | [c, a, b], hk, hz =>
        have hc := hz c (by simp)
        have ha := hz a (by simp)
        have hb := hz b (by simp)
        have e : gateW (mv V) 4 [c, a, b] = if mv V c then mv V a else mv V b := rfl
        have hnc : -c ≠ 0 := by omega
        have e1 : ∀ x : List Int, gateW (mv V) 1 x = x.all (mv V) := fun x => rfl
        have e2 : ∀ x : List Int, gateW (mv V) 2 x = x.any (mv V) := fun x => rfl
        simp only
        rw [e]
        split
        · rename_i q
          refine ⟨fun _ => ?_, fun h0 => absurd h0 ha⟩
          rcases q with q | ⟨_, q⟩
          · rw [q, T1]; rfl
          · rw [q]; simp
        · split
          · rename_i q; exact ⟨fun _ => by rw [q, T2]; rfl, fun h0 => absurd h0 hb⟩
          · split
            · rename_i q
              have := gO [c, b] (two c b hc hb)
              have e3 : [c, b].any (mv V) = if mv V c then mv V a else mv V b := by rw [q, T1]; simp only [List.any_cons, List.any_nil]; cases mv V c <;> simp
              simp only [e2]
              rw [e3] at this; exact this
            · split
              · rename_i q
                have := gA [-c, b] (two (-c) b hnc hb)
                have e3 : [-c, b].all (mv V) = if mv V c then mv V a else mv V b := by rw [q, T2]; simp only [List.all_cons, List.all_nil, mv_neg hc]; cases mv V c <;> simp
                simp only [e1]
                rw [e3] at this; exact this
              · split
                · rename_i q
                  have := gO [-c, a] (two (-c) a hnc ha)
                  have e3 : [-c, a].any (mv V) = if mv V c then mv V a else mv V b := by rw [q, T1]; simp only [List.any_cons, List.any_nil, mv_neg hc]; cases mv V c <;> simp
                  simp only [e2]
                  rw [e3] at this; exact this
                · split
                  · rename_i q
                    have := gA [c, a] (two c a hc ha)
                    have e3 : [c, a].all (mv V) = if mv V c then mv V a else mv V b := by rw [q, T2]; simp only [List.all_cons, List.all_nil]; cases mv V c <;> simp
                    simp only [e1]
                    rw [e3] at this; exact this
                  · exact ⟨fun h => absurd rfl h, fun _ => e⟩
    · rw [if_neg k4]
      by_cases k1 : k = 1
      · subst k1
        simp only [if_true]
        exact gA ls hz
      · by_cases k2 : k = 2
        · subst k2
          exact gO ls hz
        · rw [if_neg k1, if_neg k2, if_neg k3, if_neg k4] at hk; cases hk
theorem simplP_P {P : Int → Prop} (hneg : ∀ x, P x → P (-x)) (hT : P 65537) {k : Int} {ls : List Int} (h : ∀ x ∈ ls, P x) :
    ((simplP 65537 k ls).1 = 0 ∨ P (simplP 65537 k ls).1) ∧ ∀ x ∈ (simplP 65537 k ls).2.2, P x := by
  have hF : P (-65537) := hneg _ hT
  have gP : ∀ (s : Int) (ls : List Int), P s → (∀ x ∈ ls, P x) → ((gatherP s ls).1 = 0 ∨ P (gatherP s ls).1) ∧ ∀ x ∈ (gatherP s ls).2, P x := fun s ls hs h => by
    unfold gatherP
    cases hg : gatherGo s [] ls with
    | none => exact ⟨.inr (hneg _ hs), fun x hx => by cases hx⟩
    | some out =>
      have hsub : ∀ x ∈ out, P x := fun x hx => by
        rcases gatherGo_sub ls [] out hg x hx with h' | h'
        · cases h'
        · exact h x h'
      match out, hsub with
      | [], _ => exact ⟨.inr hs, fun x hx => by cases hx⟩
      | [x], hsub => exact ⟨.inr (hsub x (by simp)), fun x hx => by cases hx⟩
      | x :: y :: zs, hsub => exact ⟨.inl rfl, hsub⟩
  have two : ∀ a b : Int, P a → P b → ∀ y ∈ [a, b], P y := fun a b ha hb y hy => by
    simp only [List.mem_cons, List.not_mem_nil, or_false] at hy
    rcases hy with rfl | rfl
    · exact ha
    · exact hb
  unfold simplP
  split
  · split
    · rename_i a b
      have ha := h a (by simp)
      have hb := h b (by simp)
      split
      · refine ⟨.inr ?_, h⟩
        simp only [exclP]
        repeat' split
        all_goals first | assumption | exact hneg _ (by assumption)
      · exact ⟨.inl rfl, h⟩
    · exact ⟨.inl rfl, h⟩
  · split
    · split
      · rename_i c a b
        have hc := h c (by simp)
        have ha := h a (by simp)
        have hb := h b (by simp)
        repeat' split
        · exact ⟨.inr ha, h⟩
        · exact ⟨.inr hb, h⟩
        · exact gP _ _ hF (two _ _ hc hb)
        · exact gP _ _ hT (two _ _ (hneg _ hc) hb)
        · exact gP _ _ hF (two _ _ (hneg _ hc) ha)
        · exact gP _ _ hT (two _ _ hc ha)
        · exact ⟨.inl rfl, h⟩
      · exact ⟨.inl rfl, h⟩
    · split
      · exact gP _ _ hT h
      · exact gP _ _ hF h
theorem gatherGo_len {s : Int} : ∀ (ls out r : List Int), gatherGo s out ls = some r → r.length ≤ out.length + ls.length
  | [], out, r, h => by
    have : out = r := by simpa [gatherGo] using h
    rw [this]; simp
  | l :: ls, out, r, h => by
    unfold gatherGo at h
    rw [List.length_cons]
    split at h
    · cases h
    · split at h
      · have := gatherGo_len ls _ r h
        rw [List.length_append] at this; simp at this; omega
      · have := gatherGo_len ls _ r h; omega
theorem gatherP_len (s : Int) (ls : List Int) : (gatherP s ls).2.length ≤ ls.length := by
  unfold gatherP
  cases hg : gatherGo s [] ls with
  | none => simp
  | some out =>
    have := gatherGo_len ls [] out hg
    match out, this with
    | [], _ => simp [gatherEnd]
    | [x], _ => simp [gatherEnd]
    | x :: y :: zs, this => simpa [gatherEnd] using this
theorem simplP_shape {k : Int} {ls : List Int} (hk : shapedB k ls.length = true) : shapedB (simplP 65537 k ls).2.1 (simplP 65537 k ls).2.2.length = true ∧ (simplP 65537 k ls).2.2.length ≤ ls.length := by
  have l2 := fun (s a b c : Int) => Nat.le_trans (gatherP_len s [a, b]) (show [a, b].length ≤ [c, a, b].length by simp)
  have hk0 := hk
  unfold shapedB at hk
  unfold simplP
  by_cases k3 : k = 3
  · subst k3
    simp only [if_true, Int.reduceEq, if_false, decide_eq_true_eq] at hk ⊢
    match ls, hk, hk0 with
    | [a, b], hk, hk0 => simp only; split <;> exact ⟨hk0, Nat.le_refl _⟩
  · rw [if_neg k3]
    by_cases k4 : k = 4
    · subst k4
      simp only [if_true, Int.reduceEq, if_false, decide_eq_true_eq] at hk ⊢
      match ls, hk, hk0 with
      | [c, a, b], hk, hk0 =>
        simp only
        repeat' split
        all_goals first | exact ⟨hk0, Nat.le_refl _⟩ | exact ⟨rfl, Nat.le_trans (gatherP_len _ _) (by simp)⟩
    · rw [if_neg k4]
      split
      · exact ⟨rfl, gatherP_len _ _⟩
      · exact ⟨rfl, gatherP_len _ _⟩
/-! ### The gates that stay -/
def Sup (S : Nat → Bool) (x : Int) : Prop := x = 65537 ∨ x = -65537 ∨ (S (absN x) = true ∧ 1 ≤ absN x)
theorem Sup.neg {S : Nat → Bool} {x : Int} (h : Sup S x) : Sup S (-x) := by
  rcases h with h | h | h
  · exact .inr (.inl (by omega))
  · exact .inl (by omega)
  · exact .inr (.inr (by rw [absN_neg]; exact h))
theorem Sup.nz {S : Nat → Bool} {x : Int} (h : Sup S x) : x ≠ 0 := by
  rcases h with h | h | h
  · omega
  · omega
  · exact (absN_pos h.2).2.2
theorem Sup.mono {S T : Nat → Bool} {x : Int} (h : Sup S x) (hs : ∀ i, S i = true → T i = true) : Sup T x := h.imp id (Or.imp id (fun h => ⟨hs _ h.1, h.2⟩))
theorem valsG_append : ∀ (xs ys : List PGate) (V : Nat → Bool), valsG V (xs ++ ys) = valsG (valsG V xs) ys
  | [], _, _ => rfl
  | x :: xs, ys, V => valsG_append xs ys _
theorem mayGates_append : ∀ (xs ys : List PGate) (S : Nat → Bool), mayGates S (xs ++ ys) = (mayGates S xs).bind fun S' => mayGates S' ys
  | [], _, _ => rfl
  | x :: xs, ys, S => by
    simp only [List.cons_append, mayGates]
    split
    · rfl
    · split
      · rfl
      · split
        · exact mayGates_append xs ys _
        · rfl
theorem mayGates_one {S : Nat → Bool} {g : PGate} (h1 : shapedB g.kind g.ins.length = true) (h2 : ∀ l ∈ g.ins, S (absN l) = true) (h3 : addB S g.var = true) : mayGates S [g] = some (upd S g.var.toNat true) := by
  unfold mayGates mayGates
  rw [if_neg (by rw [h1]; simp), if_neg (by simpa using h2), if_pos h3]
theorem litSum_append (xs ys : List PGate) : litSum (xs ++ ys) = litSum xs + litSum ys := by
  induction xs with
  | nil => simp [litSum]
  | cons x xs ih => simp only [List.cons_append, litSum, ih]; omega
theorem mv_meanL {V : Nat → Bool} {M : Nat → Int} {S S' U : Nat → Bool} (hS : SetR S) (hM : ∀ i, S i = true → Sup S' (M i)) (hv : ∀ i, S i = true → mv V (M i) = U i) {l : Int} (hl : S (absN l) = true) :
    Sup S' (meanL M l) ∧ mv V (meanL M l) = holdsV U l := by
  have h1 := (hS _ hl).1
  have hb := absN_pos h1
  have e : absN l = (if l < 0 then (-l).toNat else l.toNat) := by
    unfold absN absI
    rw [if_neg (by omega), if_neg (by omega)]
    split <;> rfl
  unfold meanL holdsV
  split
  · rename_i h; rw [if_pos h] at e; rw [← e]
    refine ⟨(hM _ hl).neg, ?_⟩
    rw [mv_neg (hM _ hl).nz, hv _ hl, decide_eq_false (by omega)]; cases U (absN l) <;> rfl
  · rename_i h; rw [if_neg h] at e; rw [← e]
    refine ⟨hM _ hl, ?_⟩
    rw [hv _ hl, decide_eq_true (by omega)]; cases U (absN l) <;> rfl
theorem holdsV_upd {V : Nat → Bool} {v : Int} {b : Bool} {x : Int} (h : absN x ≠ v.toNat) : holdsV (upd V v.toNat b) x = holdsV V x := by
  unfold holdsV upd; rw [if_neg h]
theorem absN_of {v : Int} (h1 : 1 ≤ v) (h2 : v ≤ 65536) : absN v = v.toNat := by
  unfold absN absI
  rw [if_neg (by omega), if_neg (by omega), if_neg (by omega)]
theorem gates_sem (W0 S0 : Nat → Bool) : ∀ (gs : List PGate) (M : Nat → Int) (S S' Sf U : Nat → Bool) (stay : List PGate), SetR S → mayGates S gs = some Sf → mayGates S0 stay = some S' → (∀ i, S' i = true → S i = true) →
    (∀ i, S i = true → Sup S' (M i)) → (∀ i, S i = true → mv (valsG W0 stay) (M i) = U i) →
    ∃ S2, mayGates S0 (gs.foldl (gateStep 65537) (M, stay)).2 = some S2 ∧ SetR Sf ∧ (∀ i, Sf i = true → Sup S2 ((gs.foldl (gateStep 65537) (M, stay)).1 i)) ∧
      (∀ i, Sf i = true → mv (valsG W0 (gs.foldl (gateStep 65537) (M, stay)).2) ((gs.foldl (gateStep 65537) (M, stay)).1 i) = valsG U gs i) ∧ litSum (gs.foldl (gateStep 65537) (M, stay)).2 ≤ litSum stay + litSum gs
  | [], M, S, S', Sf, U, stay, hR, h, hs, hsub, hM, hv => by injection h with h; subst h; exact ⟨S', hs, hR, hM, hv, Nat.le_refl _⟩
  | g :: gs, M, S, S', Sf, U, stay, hR, h, hs, hsub, hM, hv => by
    obtain ⟨h1, h2, h3, h4⟩ := mayGates_cons h
    have hadd := h3
    rw [addB_iff] at h3
    have hnS' : S' g.var.toNat = false := by
      cases hq : S' g.var.toNat with
      | false => rfl
      | true => have := hsub _ hq; rw [h3.2.2] at this; cases this
    have hls : ∀ y ∈ g.ins.map (meanL M), Sup S' y := fun y hy => by
      obtain ⟨l, hl, rfl⟩ := List.mem_map.1 hy
      exact (mv_meanL hR hM hv (h2 l hl)).1
    have hk : shapedB g.kind (g.ins.map (meanL M)).length = true := by rw [List.length_map]; exact h1
    have hz : ∀ y ∈ g.ins.map (meanL M), y ≠ 0 := fun y hy => (hls y hy).nz
    have sem := simplP_sem (V := valsG W0 stay) hk hz
    have sup := simplP_P (P := Sup S') (fun x => Sup.neg) (.inl rfl) (k := g.kind) hls
    have shp := simplP_shape hk
    have hid := simplP_id hk
    have eg : gateW (mv (valsG W0 stay)) g.kind (g.ins.map (meanL M)) = gateV U g.kind g.ins := by
      rw [gateW_map, gateV_W]
      exact gateW_congr _ (fun l hl => (mv_meanL hR hM hv (h2 l hl)).2)
    rw [eg] at sem
    have hR' := hR.upd hadd
    simp only [List.foldl_cons]
    obtain ⟨r, hr⟩ : ∃ r, simplP 65537 g.kind (g.ins.map (meanL M)) = r := ⟨_, rfl⟩
    have estep : gateStep 65537 (M, stay) g = if r.1 = 0 then (upd M g.var.toNat g.var, stay ++ [⟨g.var, r.2.1, r.2.2⟩]) else (upd M g.var.toNat r.1, stay) := by unfold gateStep; simp only [hr]
    rw [hr] at sem sup shp hid
    rw [estep]
    have eU : valsG U (g :: gs) = valsG (upd U g.var.toNat (gateV U g.kind g.ins)) gs := rfl
    rw [eU]
    by_cases h0 : r.1 = 0
    · rw [if_pos h0]
      have hid := hid h0 hz
      have hins : ∀ l ∈ r.2.2, S' (absN l) = true := fun l hl => by
        rcases sup.2 l hl with q | q | q
        · exact absurd q (hid l hl).1
        · exact absurd q (hid l hl).2
        · exact q.1
      have m1 : mayGates S' [⟨g.var, r.2.1, r.2.2⟩] = some (upd S' g.var.toNat true) := mayGates_one shp.1 hins (addB_iff.2 ⟨h3.1, h3.2.1, hnS'⟩)
      have m2 : mayGates S0 (stay ++ [⟨g.var, r.2.1, r.2.2⟩]) = some (upd S' g.var.toNat true) := by rw [mayGates_append, hs]; exact m1
      have ev : valsG W0 (stay ++ [⟨g.var, r.2.1, r.2.2⟩]) = upd (valsG W0 stay) g.var.toNat (gateV U g.kind g.ins) := by
        rw [valsG_append]
        have : gateV (valsG W0 stay) r.2.1 r.2.2 = gateV U g.kind g.ins := by
          rw [← sem.2 h0, gateV_W]
          exact gateW_congr _ (fun l hl => (mv_lit (hid l hl).1 (hid l hl).2).symm)
        rw [← this]; rfl
      have hup : ∀ i, S' i = true → upd S' g.var.toNat true i = true := fun i hi => by unfold upd; split; rfl; exact hi
      obtain ⟨S2, k1, k2, k3, k4, k5⟩ := gates_sem W0 S0 gs (upd M g.var.toNat g.var) (upd S g.var.toNat true) (upd S' g.var.toNat true) Sf (upd U g.var.toNat (gateV U g.kind g.ins)) (stay ++ [⟨g.var, r.2.1, r.2.2⟩]) hR' h4 m2
        (fun i hi => by unfold upd at hi ⊢; split; rfl; rename_i hne; rw [if_neg hne] at hi; exact hsub i hi)
        (fun i hi => by
          by_cases hne : i = g.var.toNat
          · rw [show upd M g.var.toNat g.var i = g.var by unfold upd; rw [if_pos hne]]
            exact .inr (.inr ⟨by rw [absN_of h3.1 h3.2.1]; unfold upd; rw [if_pos rfl], by rw [absN_of h3.1 h3.2.1]; omega⟩)
          · rw [show upd M g.var.toNat g.var i = M i by unfold upd; rw [if_neg hne]]
            rw [show upd S g.var.toNat true i = S i by unfold upd; rw [if_neg hne]] at hi
            exact (hM i hi).mono hup)
        (fun i hi => by
          rw [ev]
          by_cases hne : i = g.var.toNat
          · rw [show upd M g.var.toNat g.var i = g.var by unfold upd; rw [if_pos hne], mv_lit (by omega) (by omega)]
            unfold holdsV
            rw [absN_of h3.1 h3.2.1, decide_eq_true (by omega)]
            unfold upd; rw [if_pos rfl, if_pos hne]; cases gateV U g.kind g.ins <;> rfl
          · rw [show upd M g.var.toNat g.var i = M i by unfold upd; rw [if_neg hne]]
            rw [show upd S g.var.toNat true i = S i by unfold upd; rw [if_neg hne]] at hi
            rw [show upd U g.var.toNat (gateV U g.kind g.ins) i = U i by unfold upd; rw [if_neg hne], ← hv i hi]
            rcases hM i hi with q | q | q
            · rw [q]; rfl
            · rw [q]; rfl
            · have hne2 : absN (M i) ≠ g.var.toNat := fun e => by rw [e, hnS'] at q; cases q.1
              have hb := absN_pos q.2
              rw [mv_lit (by omega) (by omega), mv_lit (by omega) (by omega), holdsV_upd hne2])
      refine ⟨S2, k1, k2, k3, k4, ?_⟩
      rw [litSum_append] at k5
      have : litSum [⟨g.var, r.2.1, r.2.2⟩] = r.2.2.length := by simp [litSum]
      rw [this] at k5
      have := shp.2
      rw [List.length_map] at this
      simp only [litSum]
      omega
    · rw [if_neg h0]
      obtain ⟨S2, k1, k2, k3, k4, k5⟩ := gates_sem W0 S0 gs (upd M g.var.toNat r.1) (upd S g.var.toNat true) S' Sf (upd U g.var.toNat (gateV U g.kind g.ins)) stay hR' h4 hs
        (fun i hi => by unfold upd; split; rfl; exact hsub i hi)
        (fun i hi => by
          by_cases hne : i = g.var.toNat
          · rw [show upd M g.var.toNat r.1 i = r.1 by unfold upd; rw [if_pos hne]]
            exact sup.1.resolve_left h0
          · rw [show upd M g.var.toNat r.1 i = M i by unfold upd; rw [if_neg hne]]
            rw [show upd S g.var.toNat true i = S i by unfold upd; rw [if_neg hne]] at hi
            exact hM i hi)
        (fun i hi => by
          by_cases hne : i = g.var.toNat
          · rw [show upd M g.var.toNat r.1 i = r.1 by unfold upd; rw [if_pos hne], sem.1 h0]
            unfold upd; rw [if_pos hne]
          · rw [show upd M g.var.toNat r.1 i = M i by unfold upd; rw [if_neg hne]]
            rw [show upd S g.var.toNat true i = S i by unfold upd; rw [if_neg hne]] at hi
            rw [show upd U g.var.toNat (gateV U g.kind g.ins) i = U i by unfold upd; rw [if_neg hne]]
            exact hv i hi)
      exact ⟨S2, k1, k2, k3, k4, by simp only [litSum]; omega⟩
/-! ### The gates that are reached -/
theorem markS_up (S : Nat → Bool) : ∀ (ls : List Int) (i : Nat), markS S ls i = (S i || ls.any fun l => absN l == i) := by
  intro ls
  have : ∀ (ls : List Int) (S : Nat → Bool) (i : Nat), markS S ls i = (S i || ls.any fun l => absN l == i) := by
    intro ls
    induction ls with
    | nil => intro S i; simp [markS]
    | cons l ls ih =>
      intro S i
      have e : markS S (l :: ls) = markS (upd S (absN l) true) ls := rfl
      rw [e, ih]
      unfold upd
      by_cases hi : i = absN l
      · rw [if_pos hi]; simp [hi]
      · have : (absN l == i) = false := by rw [beq_eq_false_iff_ne]; exact fun e => hi e.symm
        rw [if_neg hi]; simp [this]
  exact this ls S
theorem reach_sem (V : Nat → Bool) : ∀ (gs : List PGate) (S : Nat → Bool) (i : Nat), S i = true → valsG V (reachG S gs).reverse i = valsG V gs.reverse i
  | [], S, i, _ => rfl
  | g :: gs, S, i, hi => by
    simp only [List.reverse_cons]
    unfold reachG
    rw [valsG_append]
    by_cases h : S g.var.toNat = true
    · rw [if_pos h, List.reverse_cons, valsG_append]
      have up : ∀ j, S j = true → markS S g.ins j = true := fun j hj => by rw [markS_up, hj]; rfl
      have ih := reach_sem V gs (markS S g.ins)
      have e : gateV (valsG V (reachG (markS S g.ins) gs).reverse) g.kind g.ins = gateV (valsG V gs.reverse) g.kind g.ins := by
        rw [gateV_W, gateV_W]
        refine gateW_congr _ (fun l hl => ?_)
        unfold holdsV
        rw [ih (absN l) (by rw [markS_up, List.any_eq_true.2 ⟨l, hl, by simp⟩]; simp)]
      show upd (valsG V (reachG (markS S g.ins) gs).reverse) g.var.toNat _ i = upd (valsG V gs.reverse) g.var.toNat _ i
      rw [e]
      unfold upd
      split
      · rfl
      · exact ih i (up i hi)
    · rw [if_neg h]
      show _ = upd (valsG V gs.reverse) g.var.toNat _ i
      unfold upd
      rw [if_neg (fun e => h (by rw [← e]; exact hi))]
      exact reach_sem V gs S i hi
theorem reach_may (S0 : Nat → Bool) : ∀ (gs : List PGate) (S Sf : Nat → Bool), mayGates S0 gs.reverse = some Sf → ∃ S2, mayGates S0 (reachG S gs).reverse = some S2 ∧ (∀ i, S2 i = true → Sf i = true) ∧ (∀ i, S i = true → Sf i = true → S2 i = true) ∧ litSum (reachG S gs).reverse ≤ litSum gs.reverse
  | [], S, Sf, h => ⟨Sf, h, fun i h => h, fun i _ h => h, Nat.le_refl _⟩
  | g :: gs, S, Sf, h => by
    rw [List.reverse_cons, mayGates_append] at h
    cases hg : mayGates S0 gs.reverse with
    | none => rw [hg] at h; cases h
    | some S1 =>
      rw [hg] at h
      obtain ⟨h1, h2, h3, h4⟩ := mayGates_cons (show mayGates S1 (g :: []) = some Sf from h)
      injection h4 with h4
      rw [addB_iff] at h3
      simp only [List.reverse_cons, litSum_append]
      unfold reachG
      by_cases hc : S g.var.toNat = true
      · rw [if_pos hc, List.reverse_cons, litSum_append]
        obtain ⟨S2, k1, k2, k3, k4⟩ := reach_may S0 gs (markS S g.ins) S1 hg
        have hins : ∀ l ∈ g.ins, S2 (absN l) = true := fun l hl => k3 _ (by rw [markS_up, List.any_eq_true.2 ⟨l, hl, by simp⟩]; simp) (h2 l hl)
        have hnew : S2 g.var.toNat = false := by
          cases hq : S2 g.var.toNat with
          | false => rfl
          | true => have := k2 _ hq; rw [h3.2.2] at this; cases this
        refine ⟨upd S2 g.var.toNat true, by rw [mayGates_append, k1]; exact mayGates_one h1 hins (addB_iff.2 ⟨h3.1, h3.2.1, hnew⟩), fun i hi => ?_, fun i hi hf => ?_, by omega⟩
        · rw [← h4]; unfold upd at hi ⊢; split; rfl; rename_i hne; rw [if_neg hne] at hi; exact k2 i hi
        · rw [← h4] at hf; unfold upd at hf ⊢; split; rfl; rename_i hne; rw [if_neg hne] at hf
          exact k3 i (by rw [markS_up, hi]; rfl) hf
      · rw [if_neg hc]
        obtain ⟨S2, k1, k2, k3, k4⟩ := reach_may S0 gs S S1 hg
        refine ⟨S2, k1, fun i hi => ?_, fun i hi hf => ?_, by omega⟩
        · rw [← h4]; unfold upd; split; rfl; exact k2 i hi
        · rw [← h4] at hf; unfold upd at hf
          by_cases hne : i = g.var.toNat
          · rw [hne] at hi; exact absurd hi hc
          · rw [if_neg hne] at hf; exact k3 i hi hf
/-! ### A variable that is free -/
theorem many_mem : ∀ (n : Nat) (l : List Int), (∀ i, i < n → ((i : Int) + 1) ∈ l) → n ≤ l.length
  | 0, _, _ => Nat.zero_le _
  | n + 1, l, h => by
    have hm := h n (by omega)
    have := many_mem n (l.erase ((n : Int) + 1)) (fun i hi => (List.mem_erase_of_ne (by omega)).2 (h i (by omega)))
    rw [List.length_erase_of_mem hm] at this
    have : 0 < l.length := List.length_pos_of_mem hm
    omega
theorem free_some {p : List PBlock} (h : (prefFrom none 0 noS p).isSome = true) : ∃ k : Nat, freeI ((prefFrom none 0 noS p).getD noS) 1 = k ∧ k ≤ 1024 ∧ ((prefFrom none 0 noS p).getD noS) (1 + k) = false ∧ ∀ j, j < k → ((prefFrom none 0 noS p).getD noS) (1 + j) = true := by
  have hi := preS_iff (N := ⟨p, [], 0⟩) h
  have hr := pre_rng (N := ⟨p, [], 0⟩) h
  obtain ⟨S, hS⟩ : ∃ S, (prefFrom none 0 noS p).getD noS = S := ⟨_, rfl⟩
  have hi : ∀ i : Nat, S i = decide ((i : Int) ∈ varsOf p) := fun i => by rw [← hS]; exact hi i
  have hr : (varsOf p).length ≤ 1024 := hr.2
  rw [hS]
  have ex : ∃ k, k ≤ 1024 ∧ S (1 + k) = false := by
    apply Classical.byContradiction
    intro hn
    have := many_mem 1025 (varsOf p) (fun i hlt => by
      have : S (1 + i) ≠ false := fun e => hn ⟨i, by omega, e⟩
      have : S (1 + i) = true := by simpa using this
      rw [hi] at this
      have := of_decide_eq_true this
      have e : ((1 + i : Nat) : Int) = (i : Int) + 1 := by omega
      rw [← e]; exact this)
    omega
  have least : ∀ k, S (1 + k) = false → ∃ m, m ≤ k ∧ S (1 + m) = false ∧ ∀ j, j < m → S (1 + j) = true := by
    intro k
    induction k with
    | zero => intro h; exact ⟨0, Nat.le_refl _, h, fun j hj => by omega⟩
    | succ k ih =>
      intro h
      by_cases hex : ∃ j, j ≤ k ∧ S (1 + j) = false
      · obtain ⟨j, hj, hf⟩ := hex
        by_cases hall : S (1 + k) = false
        · obtain ⟨m, h1, h2⟩ := ih hall; exact ⟨m, by omega, h2⟩
        · clear ih
          have : ∀ n j, n = k - j → j ≤ k → S (1 + j) = false → ∃ m, m ≤ k ∧ S (1 + m) = false ∧ ∀ j, j < m → S (1 + j) = true := by
            intro n j _ _ _
            obtain ⟨m, hm⟩ : ∃ m : Nat, (List.range (j + 1)).find? (fun i => !S (1 + i)) = some m := by
              cases hq : (List.range (j + 1)).find? (fun i => !S (1 + i)) with
              | some m => exact ⟨m, rfl⟩
              | none => rw [List.find?_eq_none] at hq; have := hq j (by simp); simp_all
            rw [List.find?_eq_some_iff_getElem] at hm
            obtain ⟨h1, i, h2, h3, h4⟩ := hm
            simp only [List.length_range, List.getElem_range] at h2 h3 h4
            subst h3
            exact ⟨i, by omega, by simpa using h1, fun q hq => by simpa using h4 q hq⟩
          obtain ⟨m, h1, h2⟩ := this _ j rfl hj hf
          exact ⟨m, by omega, h2⟩
      · exact ⟨k + 1, Nat.le_refl _, h, fun j hj => by
          have : ¬ S (1 + j) = false := fun e => hex ⟨j, by omega, e⟩
          simpa using this⟩
  obtain ⟨k, hk, hf⟩ := ex
  obtain ⟨m, h1, h2, h3⟩ := least k hf
  exact ⟨m, freeI_at h2 h3 (by omega), by omega, h2, h3⟩
/-! ### Simple has the value of the net -/
theorem varM_id : ∀ (vs : List Int) (M : Nat → Int), (∀ y ∈ vs, 1 ≤ y ∧ y ≤ 65536) → ∀ i, varM M vs i = if (i : Int) ∈ vs then (i : Int) else M i
  | [], M, _, i => by simp [varM]
  | v :: vs, M, h, i => by
    have hv := h v (.head _)
    have e : varM M (v :: vs) = varM (upd M v.toNat v) vs := rfl
    rw [e, varM_id vs _ (fun y hy => h y (.tail _ hy)) i]
    by_cases h1 : (i : Int) ∈ vs
    · rw [if_pos h1, if_pos (.tail _ h1)]
    · rw [if_neg h1]
      unfold upd
      by_cases h2 : i = v.toNat
      · have : (i : Int) = v := by omega
        rw [if_pos h2, if_pos (by rw [this]; exact .head _), this]
      · have : (i : Int) ≠ v := by omega
        rw [if_neg h2, if_neg (by rintro (_ | ⟨_, h⟩); exact this rfl; exact h1 h)]
theorem fixM_out : ∀ (a : List Int) (M : Nat → Int) (i : Nat), markS noS a i = false → fixM 65537 M a i = M i
  | [], M, i, _ => rfl
  | l :: a, M, i, h => by
    rw [markS_up] at h
    simp only [List.any_cons, Bool.or_eq_false_iff] at h
    have e : fixM 65537 M (l :: a) = fixM 65537 (upd M (absN l) (if l < 0 then -65537 else 65537)) a := rfl
    rw [e, fixM_out a _ i (by rw [markS_up]; simp [noS, h.2.2])]
    unfold upd
    rw [if_neg (by have := h.2.1; rw [beq_eq_false_iff_ne] at this; exact fun e => this e.symm)]
theorem fixM_in : ∀ (a : List Int) (M : Nat → Int) (i : Nat), (M i = 65537 ∨ M i = -65537 ∨ markS noS a i = true) → fixM 65537 M a i = 65537 ∨ fixM 65537 M a i = -65537
  | [], M, i, h => by
    rcases h with h | h | h
    · exact .inl h
    · exact .inr h
    · cases h
  | l :: a, M, i, h => by
    have e : fixM 65537 M (l :: a) = fixM 65537 (upd M (absN l) (if l < 0 then -65537 else 65537)) a := rfl
    rw [e]
    apply fixM_in a
    unfold upd
    by_cases hi : i = absN l
    · rw [if_pos hi]
      by_cases hl : l < 0
      · rw [if_pos hl]; exact .inr (.inl rfl)
      · rw [if_neg hl]; exact .inl rfl
    · rw [if_neg hi]
      rcases h with h | h | h
      · exact .inl h
      · exact .inr (.inl h)
      · right; right
        rw [markS_up] at h ⊢
        simp only [List.any_cons] at h
        have : (absN l == i) = false := by rw [beq_eq_false_iff_ne]; exact fun e => hi e.symm
        rw [this, Bool.false_or] at h; exact h
theorem preS_without {N : PNet} (h : (prefFrom none 0 noS N.pre).isSome = true) (S : Nat → Bool) (gs : List PGate) (o : Int) (i : Nat) : preS ⟨withoutP S N.pre, gs, o⟩ i = (preS N i && !S i) := by
  rw [preS_iff (N := ⟨withoutP S N.pre, gs, o⟩) (without_some h S), preS_iff h]
  show decide ((i : Int) ∈ varsOf (withoutP S N.pre)) = _
  rw [withoutP_vars]
  unfold keepV
  rw [Bool.eq_iff_iff]
  simp [List.mem_filter]
/-- The state of the simplification, behind all gates. -/
structure SimpOk (N : PNet) (a : List Int) (W0 : Nat → Bool) (U : Nat → Bool) : Prop where
  out : Sup ((mayGates (preS ⟨withoutP (markS noS a) N.pre, [], 0⟩) (simpleM 65537 N a).2).getD noS) (meanL (simpleM 65537 N a).1 N.out)
  may : (mayGates (preS ⟨withoutP (markS noS a) N.pre, [], 0⟩) (simpleM 65537 N a).2).isSome = true
  val : mv (valsG W0 (simpleM 65537 N a).2) (meanL (simpleM 65537 N a).1 N.out) = holdsV (valsG U N.gates) N.out
  lits : litSum (simpleM 65537 N a).2 ≤ litSum N.gates
theorem simpleM_ok {N : PNet} (hM : mayP N = true) (a : List Int) (W0 U : Nat → Bool) (h0 : ∀ i, preS N i = true → mv W0 (fixM 65537 (varM noM (varsOf N.pre)) a i) = U i) : SimpOk N a W0 U := by
  obtain ⟨hp, _, Sf, hSf, ho⟩ := mayP_pre hM
  have hps : (prefFrom none 0 noS N.pre).isSome = true := by rw [hp]; rfl
  have hm : mayGates (preS ⟨withoutP (markS noS a) N.pre, [], 0⟩) [] = some (preS ⟨withoutP (markS noS a) N.pre, [], 0⟩) := rfl
  have hsup : ∀ i, preS N i = true → Sup (preS ⟨withoutP (markS noS a) N.pre, [], 0⟩) (fixM 65537 (varM noM (varsOf N.pre)) a i) := fun i hi => by
    by_cases hf : markS noS a i = true
    · rcases fixM_in a (varM noM (varsOf N.pre)) i (.inr (.inr hf)) with h | h
      · exact .inl h
      · exact .inr (.inl h)
    · have hf' : markS noS a i = false := by simpa using hf
      have hR := preS_R hps i hi
      rw [fixM_out a _ i hf', varM_id _ _ (pre_rng hps).1, if_pos (by rw [preS_iff hps] at hi; simpa using hi)]
      refine .inr (.inr ?_)
      rw [absN_of (by omega) (by omega), preS_without hps, Int.toNat_natCast, hi, hf']
      exact ⟨rfl, hR.1⟩
  obtain ⟨S2, k1, k2, k3, k4, k5⟩ := gates_sem W0 (preS ⟨withoutP (markS noS a) N.pre, [], 0⟩) N.gates (fixM 65537 (varM noM (varsOf N.pre)) a) (preS N) (preS ⟨withoutP (markS noS a) N.pre, [], 0⟩) Sf U [] (preS_R hps) hSf hm
    (fun i hi => by rw [preS_without hps] at hi; simp only [Bool.and_eq_true] at hi; exact hi.1) hsup h0
  have hme := mv_meanL k2 k3 k4 ho
  have e : simpleM 65537 N a = N.gates.foldl (gateStep 65537) (fixM 65537 (varM noM (varsOf N.pre)) a, []) := rfl
  rw [← e] at k1 k3 k4 k5 hme
  exact ⟨by rw [k1]; exact hme.1, by rw [k1]; rfl, hme.2, by simp only [litSum] at k5; omega⟩
theorem mayP_of {N : PNet} {S : Nat → Bool} (h1 : (prefFrom none 0 noS N.pre).isSome = true) (h2 : litSum N.gates ≤ 200000) (h3 : mayGates (preS N) N.gates = some S) (h4 : S (absN N.out) = true) : mayP N = true := by
  obtain ⟨_, r, _, e, hp⟩ := preS_of h1
  unfold mayP mayS
  rw [hp]
  simp only
  rw [if_neg (by omega), ← e, h3]
  exact h4
theorem simple_sem {N : PNet} (hM : mayP N = true) (a : List Int) (W0 U : Nat → Bool) (h0 : ∀ i, preS N i = true → mv W0 (fixM 65537 (varM noM (varsOf N.pre)) a i) = U i) :
    mayP (simpleP 65537 N a) = true ∧ holdsV (valsG W0 (simpleP 65537 N a).gates) (simpleP 65537 N a).out = holdsV (valsG U N.gates) N.out := by
  have ok := simpleM_ok hM a W0 U h0
  obtain ⟨hp, hlit, Sf, hSf, ho⟩ := mayP_pre hM
  have hps : (prefFrom none 0 noS N.pre).isSome = true := by rw [hp]; rfl
  have hws := without_some hps (markS noS a)
  obtain ⟨k1, k2, k3, k4⟩ := ok
  rw [← k3]
  unfold simpleP
  generalize meanL (simpleM 65537 N a).1 N.out = o at k1 k3 ⊢
  unfold endP
  by_cases hc : o = 65537 ∨ o = -65537
  · rw [if_pos hc]
    obtain ⟨k, hk, hk2, hk3, hk4⟩ := free_some hws
    rw [hk]
    obtain ⟨v, hv⟩ : ∃ v : Int, 1 + (k : Int) = v := ⟨_, rfl⟩
    rw [hv]
    have hvn : v.toNat = 1 + k := by omega
    have hadd : addB (preS ⟨withoutP (markS noS a) N.pre, [⟨v, 1, []⟩], if o = -65537 then -v else v⟩) v = true := addB_iff.2 ⟨by omega, by omega, by rw [hvn]; exact hk3⟩
    have habs : absN (if o = -65537 then -v else v) = v.toNat := by
      split
      · rw [absN_neg]; exact absN_of (by omega) (by omega)
      · exact absN_of (by omega) (by omega)
    refine ⟨mayP_of (S := upd (preS ⟨withoutP (markS noS a) N.pre, [⟨v, 1, []⟩], if o = -65537 then -v else v⟩) v.toNat true) hws (by simp [litSum]) (mayGates_one rfl (fun l hl => by cases hl) hadd) ?_, ?_⟩
    · show upd _ v.toNat true (absN (if o = -65537 then -v else v)) = true
      rw [habs]; unfold upd; rw [if_pos rfl]
    · show (upd W0 v.toNat (gateV W0 1 []) (absN (if o = -65537 then -v else v)) == decide (0 < (if o = -65537 then -v else v))) = _
      rw [habs]
      have e : upd W0 v.toNat (gateV W0 1 []) v.toNat = true := by unfold upd; rw [if_pos rfl]; rfl
      rw [e]
      rcases hc with hc | hc
      · rw [hc, if_neg (by omega), decide_eq_true (by omega)]; rfl
      · rw [hc, if_pos rfl, decide_eq_false (by omega)]; rfl
  · rw [if_neg hc]
    obtain ⟨hc1, hc2⟩ := not_or.1 hc
    obtain ⟨Ss, hSs⟩ : ∃ Ss, mayGates (preS ⟨withoutP (markS noS a) N.pre, [], 0⟩) (simpleM 65537 N a).2 = some Ss := by
      cases hq : mayGates (preS ⟨withoutP (markS noS a) N.pre, [], 0⟩) (simpleM 65537 N a).2 with
      | some S => exact ⟨S, rfl⟩
      | none => rw [hq] at k2; cases k2
    rw [hSs] at k1
    have ho2 : Ss (absN o) = true ∧ 1 ≤ absN o := by
      rcases k1 with h | h | h
      · exact absurd h hc1
      · exact absurd h hc2
      · exact h
    have hu : upd noS (absN o) true (absN o) = true := by unfold upd; rw [if_pos rfl]
    obtain ⟨S2, q1, q2, q3, q4⟩ := reach_may (preS ⟨withoutP (markS noS a) N.pre, [], 0⟩) (simpleM 65537 N a).2.reverse (upd noS (absN o) true) Ss (by rw [List.reverse_reverse]; exact hSs)
    rw [List.reverse_reverse] at q4
    refine ⟨mayP_of (S := S2) hws (by show litSum (reachG _ _).reverse ≤ _; omega) q1 (q3 _ hu ho2.1), ?_⟩
    rw [mv_lit hc1 hc2]
    unfold holdsV
    show (valsG W0 (reachG (upd noS (absN o) true) (simpleM 65537 N a).2.reverse).reverse (absN o) == _) = _
    rw [reach_sem W0 _ _ _ hu, List.reverse_reverse]
end Go.Proofs.Ytnlobmepajakcaa
