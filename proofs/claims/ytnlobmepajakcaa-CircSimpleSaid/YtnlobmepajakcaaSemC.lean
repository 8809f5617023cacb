/- What Compose gives is valid and has the value of the net with the other net's value for the variable; no condition. -/
import Derived.Test.YtnlobmepajakcaaSem
set_option linter.unusedVariables false
set_option linter.unusedSimpArgs false
namespace Go.Proofs.Ytnlobmepajakcaa
open Go.RowKit Go.Shelf

/-! ### Compose has the value of the other net for the variable -/
def nm (to : Int → Option Int) (i : Nat) : Int := (to (i : Int)).getD i
theorem absI_N (l : Int) : absI l = (absN l : Int) := by
  have := absI_nn l
  unfold absN; omega
theorem nameP_eq {to : Int → Option Int} {l : Int} (h : 1 ≤ absN l) : nameP to l = if l < 0 then -nm to (absN l) else nm to (absN l) := by
  have hl := absN_pos h
  have e : (absN l : Int) = if l < 0 then -l else l := by
    rw [← absI_N]; unfold absI
    rw [if_neg (by omega), if_neg (by omega)]
  unfold nameP nm
  rw [absI_N]
  cases to (absN l : Int) with
  | none => simp only [Option.getD_none]; rw [e]; split <;> omega
  | some x => rfl
/-- Names that stand for known variables with the same value. -/
def NmOk (to : Int → Option Int) (S So U W : Nat → Bool) : Prop := ∀ i, S i = true → So (absN (nm to i)) = true ∧ 1 ≤ absN (nm to i) ∧ holdsV W (nm to i) = U i
theorem NmOk.lit {to : Int → Option Int} {S So U W : Nat → Bool} (h : NmOk to S So U W) (hR : SetR S) {l : Int} (hl : S (absN l) = true) :
    So (absN (nameP to l)) = true ∧ 1 ≤ absN (nameP to l) ∧ holdsV W (nameP to l) = holdsV U l := by
  obtain ⟨h1, h2, h3⟩ := h _ hl
  have h4 := (hR _ hl).1
  rw [nameP_eq h4]
  have hn := (absN_pos h2).2.2
  have hl0 := (absN_pos h4).2.2
  split
  · rename_i hneg
    rw [absN_neg, holdsV_neg hn, h3]
    refine ⟨h1, h2, ?_⟩
    unfold holdsV
    rw [decide_eq_false (by omega)]; cases U (absN l) <;> rfl
  · rename_i hneg
    refine ⟨h1, h2, ?_⟩
    rw [h3]; unfold holdsV
    rw [decide_eq_true (by omega)]; cases U (absN l) <;> rfl
/-- A gate with new names. -/
theorem name_step {to to' : Int → Option Int} {P0 S So U W0 : Nat → Bool} {out : List PGate} {g : PGate} {x : Int} (hR : SetR S) (hg : shapedB g.kind g.ins.length = true) (hi : ∀ l ∈ g.ins, S (absN l) = true) (hv : 1 ≤ g.var ∧ g.var ≤ 65536)
    (hs : mayGates P0 out = some So) (hn : NmOk to S So U (valsG W0 out)) (hx : addB So x = true) (ht : ∀ i, nm to' i = if (i : Int) = g.var then x else nm to i) :
    mayGates P0 (out ++ [nameG to x g]) = some (upd So x.toNat true) ∧ NmOk to' (upd S g.var.toNat true) (upd So x.toNat true) (upd U g.var.toNat (gateV U g.kind g.ins)) (valsG W0 (out ++ [nameG to x g])) := by
  have hx' := hx
  rw [addB_iff] at hx'
  have eg : gateV (valsG W0 out) g.kind (g.ins.map (nameP to)) = gateV U g.kind g.ins := by
    rw [gateV_W, gateV_W, gateW_map]
    exact gateW_congr _ (fun l hl => (hn.lit hR (hi l hl)).2.2)
  have ev : valsG W0 (out ++ [nameG to x g]) = upd (valsG W0 out) x.toNat (gateV U g.kind g.ins) := by
    rw [valsG_append, ← eg]; rfl
  refine ⟨by rw [mayGates_append, hs]; exact mayGates_one (by show shapedB g.kind (g.ins.map (nameP to)).length = true; rw [List.length_map]; exact hg) (fun l hl => by
    obtain ⟨y, hy, rfl⟩ := List.mem_map.1 hl
    exact (hn.lit hR (hi y hy)).1) hx, fun i hi' => ?_⟩
  rw [ev, ht i]
  by_cases hne : (i : Int) = g.var
  · have hne2 : i = g.var.toNat := by omega
    rw [if_pos hne, absN_of hx'.1 hx'.2.1]
    refine ⟨by unfold upd; rw [if_pos rfl], by omega, ?_⟩
    unfold holdsV
    rw [absN_of hx'.1 hx'.2.1, decide_eq_true (by omega)]
    unfold upd; rw [if_pos rfl, if_pos hne2]; cases gateV U g.kind g.ins <;> rfl
  · have hne2 : i ≠ g.var.toNat := by omega
    rw [if_neg hne]
    rw [show upd S g.var.toNat true i = S i by unfold upd; rw [if_neg hne2]] at hi'
    obtain ⟨h1, h2, h3⟩ := hn i hi'
    have hne3 : absN (nm to i) ≠ x.toNat := fun e => by rw [e, hx'.2.2] at h1; cases h1
    refine ⟨by unfold upd; split; rfl; exact h1, h2, ?_⟩
    rw [holdsV_upd hne3, h3]; unfold upd; rw [if_neg hne2]
theorem freeI_nn {S : Nat → Bool} {o : Nat} (h : ¬ freeI S o < 0) : ∃ k : Nat, freeI S o = k ∧ S (o + k) = false ∧ o + k < 65537 := by
  unfold freeI at h ⊢
  cases hf : freeFrom S o with
  | none => rw [hf] at h; simp at h
  | some k =>
    refine ⟨k, rfl, ?_⟩
    unfold freeFrom at hf
    rw [List.find?_eq_some_iff_getElem] at hf
    obtain ⟨h1, i, h2, h3, _⟩ := hf
    simp only [List.length_range, List.getElem_range] at h2 h3
    subst h3
    exact ⟨by simpa using h1, by omega⟩
theorem comp1 {P0 used W0 : Nat → Bool} (hu : ∀ i, P0 i = true → used i = true) : ∀ (gs : List PGate) (next : Nat) (to : Int → Option Int) (out : List PGate) (S Sf So U : Nat → Bool) (r : List PGate × (Int → Option Int)), SetR S → mayGates S gs = some Sf → mayGates P0 out = some So →
    (∀ i, So i = true → P0 i = true ∨ (i ≤ next ∧ used i = false)) → NmOk to S So U (valsG W0 out) → compGo used next to out gs = some r →
    ∃ So', mayGates P0 r.1 = some So' ∧ (∀ i, So' i = true → P0 i = true ∨ used i = false) ∧ SetR Sf ∧ NmOk r.2 Sf So' (valsG U gs) (valsG W0 r.1) ∧ litSum r.1 = litSum out + litSum gs
  | [], next, to, out, S, Sf, So, U, r, hR, h, hs, hso, hn, hc => by
    injection h with h; subst h
    unfold compGo at hc
    injection hc with hc; subst hc
    exact ⟨So, hs, fun i hi => (hso i hi).imp id (fun h => h.2), hR, hn, rfl⟩
  | g :: gs, next, to, out, S, Sf, So, U, r, hR, h, hs, hso, hn, hc => by
    obtain ⟨h1, h2, h3, h4⟩ := mayGates_cons h
    have hR' := hR.upd h3
    rw [addB_iff] at h3
    unfold compGo at hc
    split at hc
    · cases hc
    · rename_i hf
      obtain ⟨k, hk, hk1, hk2⟩ := freeI_nn hf
      rw [hk] at hc
      have hnew : So (next + 1 + k) = false := by
        cases hq : So (next + 1 + k) with
        | false => rfl
        | true =>
          rcases hso _ hq with h' | h'
          · have := hu _ h'; rw [hk1] at this; cases this
          · omega
      obtain ⟨x, hx⟩ : ∃ x : Int, (next : Int) + (k : Int) + 1 = x := ⟨_, rfl⟩
      have hxn : x.toNat = next + 1 + k := by omega
      have hadd : addB So x = true := addB_iff.2 ⟨by omega, by omega, by rw [hxn]; exact hnew⟩
      have st := name_step (to' := updO to g.var x) hR h1 h2 ⟨h3.1, h3.2.1⟩ hs hn hadd (fun i => by unfold nm updO; split <;> rfl)
      have e2 : next + ((k : Nat) : Int).toNat + 1 = next + 1 + k := by omega
      rw [hx, e2] at hc
      obtain ⟨So', k1, k2, k3, k4, k5⟩ := comp1 hu gs (next + 1 + k) (updO to g.var x) (out ++ [nameG to x g]) (upd S g.var.toNat true) Sf (upd So x.toNat true) (upd U g.var.toNat (gateV U g.kind g.ins)) r hR' h4 st.1 (fun i hi => by
        unfold upd at hi
        by_cases hne : i = x.toNat
        · right; rw [hne, hxn]; exact ⟨Nat.le_refl _, hk1⟩
        · rw [if_neg hne] at hi
          exact (hso i hi).imp id (fun h => ⟨by omega, h.2⟩)) st.2 hc
      refine ⟨So', k1, k2, k3, k4, ?_⟩
      rw [k5, litSum_append]
      have : litSum [nameG to x g] = g.ins.length := by simp [litSum, nameG]
      rw [this]; simp only [litSum]; omega
theorem comp2 {P0 used W0 : Nat → Bool} {to : Int → Option Int} : ∀ (gs : List PGate) (out : List PGate) (S Sf So U : Nat → Bool), SetR S → mayGates S gs = some Sf → mayGates P0 out = some So →
    (∀ i, So i = true → S i = true ∨ used i = false) → (∀ g ∈ gs, used g.var.toNat = true ∧ to g.var = none) → NmOk to S So U (valsG W0 out) →
    ∃ So', mayGates P0 (out ++ gs.map (fun g => nameG to g.var g)) = some So' ∧ SetR Sf ∧ NmOk to Sf So' (valsG U gs) (valsG W0 (out ++ gs.map (fun g => nameG to g.var g)))
  | [], out, S, Sf, So, U, hR, h, hs, hso, hgs, hn => by
    injection h with h; subst h
    rw [List.map_nil, List.append_nil]
    exact ⟨So, hs, hR, hn⟩
  | g :: gs, out, S, Sf, So, U, hR, h, hs, hso, hgs, hn => by
    obtain ⟨h1, h2, h3, h4⟩ := mayGates_cons h
    have hR' := hR.upd h3
    rw [addB_iff] at h3
    obtain ⟨hg1, hg2⟩ := hgs g (.head _)
    have hnew : So g.var.toNat = false := by
      cases hq : So g.var.toNat with
      | false => rfl
      | true =>
        rcases hso _ hq with h' | h'
        · rw [h3.2.2] at h'; cases h'
        · rw [hg1] at h'; cases h'
    have st := name_step (to' := to) (x := g.var) hR h1 h2 ⟨h3.1, h3.2.1⟩ hs hn (addB_iff.2 ⟨h3.1, h3.2.1, hnew⟩) (fun i => by
      split
      · rename_i e; unfold nm; rw [e, hg2]; rfl
      · rfl)
    obtain ⟨So', k1, k2, k3⟩ := comp2 gs (out ++ [nameG to g.var g]) (upd S g.var.toNat true) Sf (upd So g.var.toNat true) (upd U g.var.toNat (gateV U g.kind g.ins)) hR' h4 st.1 (fun i hi => by
      unfold upd at hi ⊢
      by_cases hne : i = g.var.toNat
      · rw [if_pos hne]; exact .inl rfl
      · rw [if_neg hne] at hi ⊢
        exact hso i hi) (fun g' hg' => hgs g' (.tail _ hg')) st.2
    rw [List.append_assoc] at k1 k3
    exact ⟨So', k1, k2, k3⟩
theorem usedG_iff : ∀ (gs : List PGate) (S : Nat → Bool) (i : Nat), usedG S gs i = (S i || gs.any fun g => g.var.toNat == i)
  | [], S, i => by simp [usedG]
  | g :: gs, S, i => by
    have e : usedG S (g :: gs) = usedG (upd S g.var.toNat true) gs := rfl
    rw [e, usedG_iff gs]
    unfold upd
    by_cases h : i = g.var.toNat
    · rw [if_pos h]; simp [h]
    · have : (g.var.toNat == i) = false := by rw [beq_eq_false_iff_ne]; exact fun e => h e.symm
      rw [if_neg h]; simp [this]
theorem litSum_name (to : Int → Option Int) (gs : List PGate) : litSum (gs.map fun g => nameG to g.var g) = litSum gs := by
  induction gs with
  | nil => rfl
  | cons g gs ih => simp only [List.map_cons, litSum, ih]; simp [nameG]
/-- What a composition is worth: UN is the valuation of the net's prefix, UM that of the other net's. -/
theorem compose_sem {N M C : PNet} {v : Int} (h : composeP N v M = (C, 0)) (W0 UM UN : Nat → Bool) (hM0 : ∀ i, preS M i = true → UM i = W0 i)
    (hN0 : ∀ i, preS N i = true → UN i = if (i : Int) = v then holdsV (valsG UM M.gates) M.out else W0 i) :
    mayP N = true ∧ mayP M = true ∧ preS N v.toNat = true ∧ 1 ≤ v ∧ mayP C = true ∧ C.pre = withoutP (upd noS v.toNat true) N.pre ∧ holdsV (valsG W0 C.gates) C.out = holdsV (valsG UN N.gates) N.out := by
  unfold composeP at h
  by_cases c1 : (mayP N && mayP M) = false
  · rw [if_pos c1] at h; cases h
  rw [if_neg c1] at h
  by_cases c2 : v < 1 ∨ preS N (absN v) = false
  · rw [if_pos c2] at h; cases h
  rw [if_neg c2] at h
  by_cases c3 : ((varsOf M.pre).any fun x => decide (x = v) || !preS N x.toNat) = true
  · rw [if_pos c3] at h; cases h
  rw [if_neg c3] at h
  by_cases c4 : 200000 < litSum N.gates + litSum M.gates
  · rw [if_pos c4] at h; cases h
  rw [if_neg c4] at h
  have hmm : mayP N = true ∧ mayP M = true := by simpa using c1
  obtain ⟨hMN, hMM⟩ := hmm
  obtain ⟨hpN, _, SfN, hSfN, hoN⟩ := mayP_pre hMN
  obtain ⟨hpM, _, SfM, hSfM, hoM⟩ := mayP_pre hMM
  have hpsN : (prefFrom none 0 noS N.pre).isSome = true := by rw [hpN]; rfl
  have hpsM : (prefFrom none 0 noS M.pre).isSome = true := by rw [hpM]; rfl
  obtain ⟨hv1, hvS⟩ := not_or.1 c2
  have hvS' : preS N (absN v) = true := by simpa using hvS
  have hvr := preS_R hpsN _ hvS'
  have hvb := absN_pos hvr.1
  have ev : absN v = v.toNat := absN_of (by omega) hvb.2.1
  rw [ev] at hvS'
  cases hc : compGo (usedG (preS N) N.gates) 0 noTo [] M.gates with
  | none => rw [hc] at h; cases h
  | some r =>
    rw [hc] at h
    simp only [Prod.mk.injEq, and_true] at h
    have hC0 : ∀ i, preS ⟨withoutP (upd noS v.toNat true) N.pre, [], 0⟩ i = (preS N i && !upd noS v.toNat true i) := preS_without hpsN _ _ _
    obtain ⟨P0, hP0⟩ : ∃ P0, preS ⟨withoutP (upd noS v.toNat true) N.pre, [], 0⟩ = P0 := ⟨_, rfl⟩
    rw [hP0] at hC0
    have hP : ∀ i, P0 i = true ↔ preS N i = true ∧ i ≠ v.toNat := fun i => by
      rw [hC0 i]; unfold upd; split
      · rename_i e; simp [e]
      · rename_i e; simp [noS, e]
    have hsubM : ∀ i, preS M i = true → P0 i = true := fun i hi => by
      rw [preS_iff hpsM] at hi
      have hi' : (i : Int) ∈ varsOf M.pre := by simpa using hi
      have : ¬ ((decide ((i : Int) = v) || !preS N (i : Int).toNat) = true) := fun e => c3 (List.any_eq_true.2 ⟨_, hi', e⟩)
      simp only [Int.toNat_natCast, Bool.or_eq_true, decide_eq_true_eq, Bool.not_eq_true', not_or] at this
      exact (hP i).2 ⟨by simpa using this.2, by omega⟩
    have nm0 : ∀ i, nm noTo i = i := fun i => rfl
    have hval0 : ∀ (V : Nat → Bool) (i : Nat), 1 ≤ i → i ≤ 65536 → absN (i : Int) = i ∧ holdsV V (i : Int) = V i := fun V i h1 h2 => by
      have e : absN (i : Int) = i := by have := absN_of (v := (i : Int)) (by omega) (by omega); simpa using this
      refine ⟨e, ?_⟩
      unfold holdsV; rw [e, decide_eq_true (by omega)]; cases V i <;> rfl
    obtain ⟨So, k1, k2, k3, k4, k5⟩ := comp1 (P0 := P0) (used := usedG (preS N) N.gates) (W0 := W0) (fun i hi => by rw [usedG_iff, ((hP i).1 hi).1]; rfl) M.gates 0 noTo [] (preS M) SfM P0 UM r (preS_R hpsM) hSfM rfl (fun i hi => .inl hi)
      (fun i hi => by
        have hr := preS_R hpsM i hi
        obtain ⟨e1, e2⟩ := hval0 W0 i hr.1 hr.2
        rw [nm0, e1]
        exact ⟨hsubM i hi, hr.1, by show holdsV W0 _ = _; rw [e2, hM0 i hi]⟩) hc
    have ho := k4.lit k3 hoM
    obtain ⟨x, hx⟩ : ∃ x, nameP r.2 M.out = x := ⟨_, rfl⟩
    rw [hx] at ho
    have nm2 : ∀ i : Nat, nm (updO noTo v x) i = if (i : Int) = v then x else (i : Int) := fun i => by unfold nm updO noTo; split <;> rfl
    obtain ⟨So2, q1, q2, q3⟩ := comp2 (P0 := P0) (used := usedG (preS N) N.gates) (W0 := W0) (to := updO noTo v x) N.gates r.1 (preS N) SfN So UN (preS_R hpsN) hSfN k1
      (fun i hi => (k2 i hi).imp (fun h => ((hP i).1 h).1) id)
      (fun g hg => by
        have hgv := mayP_gates hMN g hg
        refine ⟨by rw [usedG_iff, List.any_eq_true.2 ⟨g, hg, by simp⟩]; simp, ?_⟩
        unfold updO noTo
        rw [if_neg]
        intro e
        -- the variable is in the prefix, so no gate has it
        have : ∀ (gs : List PGate) (S S' : Nat → Bool), mayGates S gs = some S' → S v.toNat = true → ∀ g ∈ gs, g.var ≠ v := by
          intro gs
          induction gs with
          | nil => intro S S' _ _ g hg; cases hg
          | cons y ys ih =>
            intro S S' hm hS g hg
            obtain ⟨a1, a2, a3, a4⟩ := mayGates_cons hm
            rw [addB_iff] at a3
            rcases List.mem_cons.1 hg with rfl | hg
            · intro e; rw [e, hS] at a3; exact absurd a3.2.2 (by simp)
            · exact ih _ _ a4 (by unfold upd; split; rfl; exact hS) g hg
        exact this _ _ _ hSfN hvS' g hg e)
      (fun i hi => by
        rw [nm2 i]
        have hr := preS_R hpsN i hi
        by_cases e : (i : Int) = v
        · rw [if_pos e]
          exact ⟨ho.1, ho.2.1, by rw [ho.2.2, hN0 i hi, if_pos e]⟩
        · rw [if_neg e]
          obtain ⟨e1, e2⟩ := hval0 (valsG W0 r.1) i hr.1 hr.2
          have hPi : P0 i = true := (hP i).2 ⟨hi, by omega⟩
          rw [e1]
          have hSo : So i = true ∧ valsG W0 r.1 i = W0 i := by
            have : ∀ (gs : List PGate) (S S' V : Nat → Bool), mayGates S gs = some S' → S i = true → S' i = true ∧ valsG V gs i = V i := by
              intro gs
              induction gs with
              | nil => intro S S' V hm hS; injection hm with hm; subst hm; exact ⟨hS, rfl⟩
              | cons y ys ih =>
                intro S S' V hm hS
                obtain ⟨a1, a2, a3, a4⟩ := mayGates_cons hm
                rw [addB_iff] at a3
                have hne : i ≠ y.var.toNat := fun e => by rw [← e, hS] at a3; exact absurd a3.2.2 (by simp)
                obtain ⟨b1, b2⟩ := ih _ _ (upd V y.var.toNat (gateV V y.kind y.ins)) a4 (by unfold upd; rw [if_neg hne]; exact hS)
                exact ⟨b1, by show valsG (upd V y.var.toNat _) ys i = V i; rw [b2]; unfold upd; rw [if_neg hne]⟩
            exact this _ _ _ _ k1 hPi
          exact ⟨hSo.1, hr.1, by rw [e2, hSo.2, hN0 i hi, if_neg e]⟩)
    have hout := q3.lit q2 hoN
    have eC : C.gates = r.1 ++ N.gates.map (fun g => nameG (updO noTo v x) g.var g) ∧ C.out = nameP (updO noTo v x) N.out ∧ C.pre = withoutP (upd noS v.toNat true) N.pre := by
      rw [← h]; unfold compEnd; rw [hx]; exact ⟨rfl, rfl, rfl⟩
    refine ⟨hMN, hMM, hvS', by omega, ?_, eC.2.2, by rw [eC.1, eC.2.1]; exact hout.2.2⟩
    refine mayP_of (S := So2) (by rw [eC.2.2]; exact without_some hpsN _) ?_ ?_ ?_
    · rw [eC.1, litSum_append, litSum_name, k5]; simp only [litSum]; omega
    · rw [eC.1]
      have e : preS C = P0 := by rw [← hP0]; unfold preS; rw [eC.2.2]
      rw [e]; exact q1
    · rw [eC.2.1]; exact hout.1
end Go.Proofs.Ytnlobmepajakcaa
