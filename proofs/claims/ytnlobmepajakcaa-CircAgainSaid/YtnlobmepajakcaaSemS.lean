/- The simplification of a simplified net is the net itself; the condition: the net is valid. -/
import Derived.Test.YtnlobmepajakcaaSem
set_option linter.unusedVariables false
set_option linter.unusedSimpArgs false
namespace Go.Proofs.Ytnlobmepajakcaa
open Go.RowKit Go.Shelf

/-! ### The prefix stays -/
theorem keepV_noS (xs : List Int) : keepV noS xs = xs := by unfold keepV; rw [List.filter_eq_self]; intro a _; rfl
theorem without_go : ∀ (p out : List PBlock), altB (out.getLast?.map PBlock.ex) p = true → p.foldl (gstep noS) out = out ++ p
  | [], out, _ => by simp
  | b :: p, out, h => by
    simp only [altB, Bool.and_eq_true, Bool.not_eq_true', decide_eq_true_eq] at h
    obtain ⟨⟨h1, h2⟩, h3⟩ := h
    have e : gstep noS out b = out ++ [b] := by
      rw [gstep_push (fun x hx e => h2 (by rw [hx]; simp [e])), keepV_noS, if_neg (by intro e; rw [e] at h1; simp at h1)]
    rw [List.foldl_cons, e, without_go p (out ++ [b]) (by simpa using h3)]
    simp
theorem without_noS {p : List PBlock} (h : altB none p = true) : withoutP noS p = p := by
  have := without_go p [] h
  simpa [withoutP] using this
/-! ### A gate that is simplified stays -/
def Final (g : PGate) : Prop := simplP 65537 g.kind g.ins = (0, g.kind, g.ins)
theorem gatherGo_clean {s : Int} : ∀ (ls out r : List Int), gatherGo s out ls = some r → (∃ ms, r = out ++ ms ∧ ∀ pre x post, ms = pre ++ x :: post → x ≠ s ∧ x ≠ -s ∧ x ∉ out ++ pre ∧ -x ∉ out ++ pre)
  | [], out, r, h => by
    have : out = r := by simpa [gatherGo] using h
    exact ⟨[], by simp [this], fun pre x post h => by simp at h⟩
  | l :: ls, out, r, h => by
    unfold gatherGo at h
    by_cases h1 : l = -s ∨ -l ∈ out
    · rw [if_pos h1] at h; cases h
    · rw [if_neg h1] at h
      obtain ⟨h1a, h1b⟩ := not_or.1 h1
      by_cases h2 : l ≠ s ∧ l ∉ out
      · rw [if_pos h2] at h
        obtain ⟨ms, rfl, hms⟩ := gatherGo_clean ls _ r h
        refine ⟨l :: ms, by simp, fun pre x post e => ?_⟩
        cases pre with
        | nil =>
          rw [List.nil_append] at e
          injection e with e1 e2
          subst e1
          rw [List.append_nil]
          exact ⟨h2.1, h1a, h2.2, h1b⟩
        | cons y pre =>
          rw [List.cons_append] at e
          injection e with e1 e2
          subst e1
          have := hms pre x post e2
          simpa using this
      · rw [if_neg h2] at h
        exact gatherGo_clean ls _ r h
theorem gatherGo_id {s : Int} : ∀ (ms out : List Int), (∀ pre x post, ms = pre ++ x :: post → x ≠ s ∧ x ≠ -s ∧ x ∉ out ++ pre ∧ -x ∉ out ++ pre) → gatherGo s out ms = some (out ++ ms)
  | [], out, _ => by simp [gatherGo]
  | x :: ms, out, h => by
    obtain ⟨h1, h2, h3, h4⟩ := h [] x ms rfl
    rw [List.append_nil] at h3 h4
    unfold gatherGo
    rw [if_neg (by rintro (h | h); exact h2 h; exact h4 h), if_pos ⟨h1, h3⟩, gatherGo_id ms (out ++ [x]) (fun pre y post e => by
      have := h (x :: pre) y post (by rw [e]; rfl)
      simpa using this)]
    simp
theorem gather_final {s : Int} {ls : List Int} (hs : s ≠ 0) (hz : ∀ x ∈ ls, x ≠ 0) (h : (gatherP s ls).1 = 0) : gatherP s (gatherP s ls).2 = (0, (gatherP s ls).2) := by
  unfold gatherP at h ⊢
  cases hg : gatherGo s [] ls with
  | none => rw [hg] at h; exact absurd h (by simp only; omega)
  | some out =>
    rw [hg] at h
    obtain ⟨ms, e, hms⟩ := gatherGo_clean ls [] out hg
    rw [List.nil_append] at e
    subst e
    have hsub : ∀ x ∈ out, x ≠ 0 := fun x hx => hz x ((gatherGo_sub ls [] out hg x hx).elim (fun h => by cases h) id)
    match out, h, hms, hsub with
    | [], h, _, _ => exact absurd h hs
    | [x], h, _, hsub => exact absurd h (hsub x (by simp))
    | x :: y :: zs, h, hms, hsub =>
      have := gatherGo_id (s := s) (x :: y :: zs) [] hms
      rw [List.nil_append] at this
      simp only [gatherEnd]
      rw [this]
theorem simpl_final {k : Int} {ls : List Int} (hk : shapedB k ls.length = true) (hz : ∀ x ∈ ls, x ≠ 0) (h : (simplP 65537 k ls).1 = 0) :
    simplP 65537 (simplP 65537 k ls).2.1 (simplP 65537 k ls).2.2 = (0, (simplP 65537 k ls).2.1, (simplP 65537 k ls).2.2) := by
  have and2 : ∀ ls : List Int, (∀ x ∈ ls, x ≠ 0) → (gatherP 65537 ls).1 = 0 → simplP 65537 1 (gatherP 65537 ls).2 = (0, 1, (gatherP 65537 ls).2) := fun ls hz h => by
    have := gather_final (s := 65537) (by omega) hz h
    unfold simplP
    rw [if_neg (by omega), if_neg (by omega), if_pos rfl, this]
  have or2 : ∀ ls : List Int, (∀ x ∈ ls, x ≠ 0) → (gatherP (-65537) ls).1 = 0 → simplP 65537 2 (gatherP (-65537) ls).2 = (0, 2, (gatherP (-65537) ls).2) := fun ls hz h => by
    have := gather_final (s := -65537) (by omega) hz h
    unfold simplP
    rw [if_neg (by omega), if_neg (by omega), if_neg (by omega), this]
  have two : ∀ a b : Int, a ≠ 0 → b ≠ 0 → ∀ x ∈ [a, b], x ≠ 0 := fun a b ha hb x hx => by
    simp only [List.mem_cons, List.not_mem_nil, or_false] at hx
    rcases hx with rfl | rfl
    · exact ha
    · exact hb
  have hk0 := hk
  unfold shapedB at hk
  by_cases k1 : k = 1
  · subst k1
    have e : simplP 65537 1 ls = ((gatherP 65537 ls).1, 1, (gatherP 65537 ls).2) := by unfold simplP; rw [if_neg (by omega), if_neg (by omega), if_pos rfl]
    rw [e] at h ⊢
    exact and2 ls hz h
  rw [if_neg k1] at hk
  by_cases k2 : k = 2
  · subst k2
    have e : simplP 65537 2 ls = ((gatherP (-65537) ls).1, 2, (gatherP (-65537) ls).2) := by unfold simplP; rw [if_neg (by omega), if_neg (by omega), if_neg (by omega)]
    rw [e] at h ⊢
    exact or2 ls hz h
  rw [if_neg k2] at hk
  by_cases k3 : k = 3
  · subst k3
    have e : ∀ x : Int × Int × List Int, simplP 65537 3 ls = x → x.2 = (3, ls) := fun x hx => by
      rw [← hx]
      unfold simplP
      rw [if_pos rfl]
      match ls with
      | [] => rfl
      | [a] => rfl
      | [a, b] => simp only; split <;> rfl
      | a :: b :: c :: d => rfl
    have e2 := e _ rfl
    have e3 : simplP 65537 3 ls = (0, 3, ls) := by rw [← h, ← e2]
    rw [e3]; exact e3
  rw [if_neg k3] at hk
  by_cases k4 : k = 4
  · subst k4
    rw [if_pos rfl] at hk
    match ls, hk, hz, h, hk0 with
    | [c, a, b], hk, hz, h, hk0 =>
      have hc := hz c (by simp)
      have ha := hz a (by simp)
      have hb := hz b (by simp)
      have e : simplP 65537 4 [c, a, b] = if c = 65537 ∨ (c ≠ -65537 ∧ a = b) then (a, 4, [c, a, b]) else if c = -65537 then (b, 4, [c, a, b]) else
        if a = 65537 then ((gatherP (-65537) [c, b]).1, 2, (gatherP (-65537) [c, b]).2) else if a = -65537 then ((gatherP 65537 [-c, b]).1, 1, (gatherP 65537 [-c, b]).2) else
        if b = 65537 then ((gatherP (-65537) [-c, a]).1, 2, (gatherP (-65537) [-c, a]).2) else if b = -65537 then ((gatherP 65537 [c, a]).1, 1, (gatherP 65537 [c, a]).2) else (0, 4, [c, a, b]) := rfl
      have e0 := e
      by_cases q1 : c = 65537 ∨ c ≠ -65537 ∧ a = b
      · rw [e, if_pos q1] at h; exact absurd h ha
      rw [if_neg q1] at e
      by_cases q2 : c = -65537
      · rw [e, if_pos q2] at h; exact absurd h hb
      rw [if_neg q2] at e
      by_cases q3 : a = 65537
      · rw [if_pos q3] at e; rw [e] at h ⊢; exact or2 _ (two c b hc hb) h
      rw [if_neg q3] at e
      by_cases q4 : a = -65537
      · rw [if_pos q4] at e; rw [e] at h ⊢; exact and2 _ (two (-c) b (by omega) hb) h
      rw [if_neg q4] at e
      by_cases q5 : b = 65537
      · rw [if_pos q5] at e; rw [e] at h ⊢; exact or2 _ (two (-c) a (by omega) ha) h
      rw [if_neg q5] at e
      by_cases q6 : b = -65537
      · rw [if_pos q6] at e; rw [e] at h ⊢; exact and2 _ (two c a hc ha) h
      rw [if_neg q6] at e
      rw [e]; exact e
  rw [if_neg k4] at hk
  cases hk
theorem stay_final : ∀ (gs : List PGate) (M : Nat → Int) (S S' : Nat → Bool) (stay : List PGate), NzM M S → SetR S → mayGates S gs = some S' → (∀ g ∈ stay, Final g) →
    ∀ g ∈ (gs.foldl (gateStep 65537) (M, stay)).2, Final g
  | [], M, S, S', stay, hN, hS, h, hF => hF
  | g :: gs, M, S, S', stay, hN, hS, h, hF => by
    obtain ⟨h1, h2, h3, h4⟩ := mayGates_cons h
    have hz : ∀ y ∈ g.ins.map (meanL M), y ≠ 0 := fun y hy => by
      obtain ⟨l, hl, rfl⟩ := List.mem_map.1 hy
      exact meanL_nz hN (h2 l hl) (hS _ (h2 l hl)).1
    have h3' := h3
    rw [addB_iff] at h3
    rw [List.foldl_cons]
    by_cases h0 : (simplP 65537 g.kind (g.ins.map (meanL M))).1 = 0
    · have e : gateStep 65537 (M, stay) g = (upd M g.var.toNat g.var, stay ++ [⟨g.var, (simplP 65537 g.kind (g.ins.map (meanL M))).2.1, (simplP 65537 g.kind (g.ins.map (meanL M))).2.2⟩]) := by
        unfold gateStep; simp only; rw [if_pos h0]
      rw [e]
      refine stay_final gs _ _ S' _ (fun i hi => ?_) (hS.upd h3') h4 (fun x hx => ?_)
      · unfold upd at hi ⊢
        split
        · omega
        · rename_i hne; rw [if_neg hne] at hi; exact hN i hi
      · rcases List.mem_append.1 hx with hx | hx
        · exact hF x hx
        · rw [List.mem_singleton] at hx
          subst hx
          exact simpl_final (by rw [List.length_map]; exact h1) hz h0
    · have e : gateStep 65537 (M, stay) g = (upd M g.var.toNat (simplP 65537 g.kind (g.ins.map (meanL M))).1, stay) := by
        unfold gateStep; simp only; rw [if_neg h0]
      rw [e]
      refine stay_final gs _ _ S' _ (fun i hi => ?_) (hS.upd h3') h4 hF
      unfold upd at hi ⊢
      split
      · exact h0
      · rename_i hne; rw [if_neg hne] at hi; exact hN i hi
/-! ### Gates that stay, again -/
theorem again_go : ∀ (gs : List PGate) (M : Nat → Int) (S S' : Nat → Bool) (stay : List PGate), (∀ i, S i = true → M i = (i : Int)) → SetR S → mayGates S gs = some S' → (∀ g ∈ gs, Final g) →
    (gs.foldl (gateStep 65537) (M, stay)).2 = stay ++ gs ∧ ∀ i, S' i = true → (gs.foldl (gateStep 65537) (M, stay)).1 i = (i : Int)
  | [], M, S, S', stay, hM, hS, h, hF => by injection h with h; subst h; exact ⟨by simp, hM⟩
  | g :: gs, M, S, S', stay, hM, hS, h, hF => by
    obtain ⟨h1, h2, h3, h4⟩ := mayGates_cons h
    have h3' := h3
    rw [addB_iff] at h3
    have em : g.ins.map (meanL M) = g.ins := by
      conv => rhs; rw [← List.map_id g.ins]
      refine List.map_congr_left fun l hl => ?_
      have hl2 := h2 l hl
      have hp := (hS _ hl2).1
      have hb := absN_pos hp
      have e : absN l = (if l < 0 then (-l).toNat else l.toNat) := by
        unfold absN absI
        rw [if_neg (by omega), if_neg (by omega)]
        split <;> rfl
      have := hM _ hl2
      rw [e] at this
      unfold meanL
      split
      · rename_i hneg; rw [if_pos hneg] at this; rw [this]; simp only [id]; omega
      · rename_i hneg; rw [if_neg hneg] at this; rw [this]; simp only [id]; omega
    have hf := hF g (.head _)
    unfold Final at hf
    have e : gateStep 65537 (M, stay) g = (upd M g.var.toNat g.var, stay ++ [g]) := by
      unfold gateStep; simp only; rw [em, hf, if_pos rfl]
    rw [List.foldl_cons, e]
    obtain ⟨k1, k2⟩ := again_go gs (upd M g.var.toNat g.var) (upd S g.var.toNat true) S' (stay ++ [g]) (fun i hi => by
      unfold upd at hi ⊢
      split
      · omega
      · rename_i hne; rw [if_neg hne] at hi; exact hM i hi) (hS.upd h3') h4 (fun x hx => hF x (.tail _ hx))
    exact ⟨by rw [k1]; simp, k2⟩
theorem reachG_again : ∀ (gs : List PGate) (S : Nat → Bool), reachG S (reachG S gs) = reachG S gs
  | [], S => rfl
  | g :: gs, S => by
    have e : ∀ ys, reachG S (g :: ys) = if S g.var.toNat = true then g :: reachG (markS S g.ins) ys else reachG S ys := fun ys => rfl
    by_cases h : S g.var.toNat = true
    · rw [e, if_pos h, e, if_pos h, reachG_again gs]
    · rw [e, if_neg h]; exact reachG_again gs S
theorem reachG_sub : ∀ (gs : List PGate) (S : Nat → Bool), ∀ g ∈ reachG S gs, g ∈ gs
  | [], S, g, h => h
  | x :: gs, S, g, h => by
    unfold reachG at h
    split at h
    · rcases List.mem_cons.1 h with rfl | h
      · exact .head _
      · exact .tail _ (reachG_sub gs _ g h)
    · exact .tail _ (reachG_sub gs _ g h)
theorem simple_pre {N : PNet} (hM : mayP N = true) : withoutP (markS noS []) N.pre = N.pre := by
  have hps : (prefFrom none 0 noS N.pre).isSome = true := by rw [(mayP_pre hM).1]; rfl
  exact without_noS (preS_of hps).1
theorem simple_again {N : PNet} (hM : mayP N = true) : simpleP 65537 (simpleP 65537 N []) [] = simpleP 65537 N [] := by
  have hps : (prefFrom none 0 noS N.pre).isSome = true := by rw [(mayP_pre hM).1]; rfl
  have hMR : mayP (simpleP 65537 N []) = true := (simple_sem hM [] noS (fun i => mv noS (fixM 65537 (varM noM (varsOf N.pre)) [] i)) (fun i _ => rfl)).1
  have hpre2 := simple_pre hMR
  have hpre := simple_pre hM
  obtain ⟨hpR, _, SR, hSR, hoR⟩ := mayP_pre hMR
  obtain ⟨_, hBI, Sf, hSf, hof, hNz⟩ := simpleM_ph hM []
  have hpreR : (simpleP 65537 N []).pre = N.pre := by unfold simpleP endP; rw [hpre]; split <;> rfl
  have hpsR : preS (simpleP 65537 N []) = preS N := by unfold preS; rw [hpreR]
  rw [hpsR] at hSR
  have hM0 : ∀ i, preS N i = true → varM noM (varsOf N.pre) i = (i : Int) := fun i hi => by
    rw [varM_id _ _ (pre_rng hps).1, if_pos (by rw [preS_iff hps] at hi; simpa using hi)]
  have hst : ∀ g ∈ (simpleM 65537 N []).2, Final g := by
    refine stay_final N.gates _ (preS N) Sf [] (fun i hi => ?_) (preS_R hps) hSf (fun g hg => by cases hg)
    show varM noM (varsOf N.pre) i ≠ 0
    rw [hM0 i hi]
    have := (preS_R hps i hi).1
    omega
  obtain ⟨R, hR⟩ : ∃ R, simpleP 65537 N [] = R := ⟨_, rfl⟩
  have hR0 := hR
  rw [hR] at hpre2 hSR hoR hpreR ⊢
  -- the simplification of what is simplified
  have two : simpleP 65537 R [] = endP 65537 N.pre (meanL (simpleM 65537 R []).1 R.out) (simpleM 65537 R []).2 := by
    unfold simpleP; rw [hpre2, hpreR]
  have eM : simpleM 65537 R [] = R.gates.foldl (gateStep 65537) (varM noM (varsOf N.pre), []) := by
    show gatesP 65537 (fixM 65537 (varM noM (varsOf R.pre)) []) R.gates = _
    rw [hpreR]; rfl
  rw [two, eM]
  unfold simpleP at hR0
  rw [hpre] at hR0
  generalize meanL (simpleM 65537 N []).1 N.out = o at hR0
  generalize (simpleM 65537 N []).2 = st at hR0 hst
  unfold endP at hR0
  by_cases hc : o = 65537 ∨ o = -65537
  · rw [if_pos hc] at hR0
    obtain ⟨k, hk, hk2, hk3, hk4⟩ := free_some hps
    rw [hk] at hR0
    obtain ⟨v, hv⟩ : ∃ v : Int, 1 + (k : Int) = v := ⟨_, rfl⟩
    rw [hv] at hR0
    subst hR0
    have e : ([⟨v, 1, []⟩] : List PGate).foldl (gateStep 65537) (varM noM (varsOf N.pre), []) = (upd (varM noM (varsOf N.pre)) v.toNat 65537, []) := rfl
    show endP 65537 N.pre (meanL (([⟨v, 1, []⟩] : List PGate).foldl (gateStep 65537) (varM noM (varsOf N.pre), [])).1 (if o = -65537 then -v else v)) (([⟨v, 1, []⟩] : List PGate).foldl (gateStep 65537) (varM noM (varsOf N.pre), [])).2 = _
    rw [e]
    have em : meanL (upd (varM noM (varsOf N.pre)) v.toNat 65537) (if o = -65537 then -v else v) = if o = -65537 then -65537 else 65537 := by
      by_cases h1 : o = -65537
      · rw [if_pos h1, if_pos h1]
        unfold meanL
        rw [if_pos (by omega)]
        have : (- -v).toNat = v.toNat := by omega
        rw [this]; unfold upd; rw [if_pos rfl]
      · rw [if_neg h1, if_neg h1]
        unfold meanL
        rw [if_neg (by omega)]
        unfold upd; rw [if_pos rfl]
    simp only
    rw [em]
    unfold endP
    rw [if_pos (by split; exact .inr rfl; exact .inl rfl), hk, hv]
    by_cases h1 : o = -65537
    · simp [h1]
    · simp [h1]
  · rw [if_neg hc] at hR0
    subst hR0
    have hG : ∀ g ∈ (reachG (upd noS (absN o) true) st.reverse).reverse, Final g := fun g hg => hst g (by
      have := reachG_sub _ _ g (List.mem_reverse.1 hg)
      exact List.mem_reverse.1 this)
    obtain ⟨k1, k2⟩ := again_go _ (varM noM (varsOf N.pre)) (preS N) SR [] hM0 (preS_R hps) hSR hG
    have hRS := (mayGates_lits _ (preS_R hps) hSR).1
    show endP 65537 N.pre (meanL (((reachG (upd noS (absN o) true) st.reverse).reverse).foldl (gateStep 65537) (varM noM (varsOf N.pre), [])).1 o) (((reachG (upd noS (absN o) true) st.reverse).reverse).foldl (gateStep 65537) (varM noM (varsOf N.pre), [])).2 = _
    have hoR' : SR (absN o) = true := hoR
    have hp := (hRS _ hoR').1
    have hb := absN_pos hp
    have ea : absN o = (if o < 0 then (-o).toNat else o.toNat) := by
      unfold absN absI
      rw [if_neg (by omega), if_neg (by omega)]
      split <;> rfl
    have key : ∀ F : Nat → Int, (∀ i, SR i = true → F i = (i : Int)) → meanL F o = o := fun F hF => by
      have := hF _ hoR'
      rw [ea] at this
      unfold meanL
      split
      · rename_i hneg; rw [if_pos hneg] at this; rw [this]; omega
      · rename_i hneg; rw [if_neg hneg] at this; rw [this]; omega
    have em := key _ k2
    rw [em, k1, List.nil_append]
    unfold endP
    rw [if_neg hc, List.reverse_reverse, reachG_again]
end Go.Proofs.Ytnlobmepajakcaa
