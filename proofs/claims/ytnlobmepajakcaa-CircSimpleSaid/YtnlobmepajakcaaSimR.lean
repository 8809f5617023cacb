/- The reference's simplification, step by step: what its numbers are, in plain words; no condition. -/
import Derived.Test.YtnlobmepajakcaaSemO
set_option linter.unusedVariables false
set_option linter.unusedSimpArgs false
namespace Go.Proofs.Ytnlobmepajakcaa
open Go.RowKit Go.Shelf

/-- The meanings before the gates gs are read. -/
def OkR (gs : List PGate) (M : Nat → Int) : Prop :=
  ∃ (M' : Nat → Int) (S S' : Nat → Bool), M = (fun i => ph (M' i)) ∧ (∀ i, BI (M' i)) ∧ NzM M' S ∧ SetR S ∧ mayGates S gs = some S'
theorem ph_bnd {x : Int} (h : BI x) : -1000000 ≤ ph x ∧ ph x ≤ 1000000 := by unfold ph BI at *; repeat' split <;> omega
theorem OkR.bnd {gs : List PGate} {M : Nat → Int} (h : OkR gs M) : ∀ i, -1000000 ≤ M i ∧ M i ≤ 1000000 := by
  obtain ⟨M', S, S', rfl, hB, _⟩ := h
  exact fun i => ph_bnd (hB i)
theorem OkR.start {N : PNet} (hM : mayP N = true) (a : List Int) : OkR N.gates (fixM 1000000 (varM noM (varsOf N.pre)) a) := by
  obtain ⟨hp, _, S, hS, ho⟩ := mayP_pre hM
  have hps : (prefFrom none 0 noS N.pre).isSome = true := by rw [hp]; rfl
  have hv := varM_ph (varsOf N.pre) noM (pre_rng hps).1 (fun i => by unfold BI noM; omega)
  have hf := fixM_ph a (varM noM (varsOf N.pre)) hv.2.1
  have e0 : (fun i => ph (noM i)) = noM := rfl
  rw [e0] at hv
  have e1 : fixM 1000000 (varM noM (varsOf N.pre)) a = (fun i => ph (fixM 65537 (varM noM (varsOf N.pre)) a i)) := by
    have h2 := hf.1
    rw [← hv.1] at h2
    exact h2
  exact ⟨_, preS N, S, e1, hf.2.1, fun i hi => by
    rw [preS_iff hps] at hi
    exact hf.2.2 i (hv.2.2 i (.inr (by simpa using hi))), preS_R hps, hS⟩
structure StepR (g : PGate) (gs : List PGate) (M : Nat → Int) : Prop where
  shape : shapedB g.kind g.ins.length = true
  var : 1 ≤ g.var ∧ g.var ≤ 65536
  lits : ∀ l ∈ g.ins, -65536 ≤ l ∧ l ≤ 65536
  vals : ∀ y ∈ g.ins.map (meanL M), -1000000 ≤ y ∧ y ≤ 1000000
  nz : ∀ y ∈ g.ins.map (meanL M), y ≠ 0
  next : ∀ stay, OkR gs (gateStep 1000000 (M, stay) g).1
theorem OkR.step {g : PGate} {gs : List PGate} {M : Nat → Int} (h : OkR (g :: gs) M) : StepR g gs M := by
  have hb := h.bnd
  obtain ⟨M', S, S', rfl, hB, hN, hR, hS⟩ := h
  obtain ⟨h1, h2, h3, h4⟩ := mayGates_cons hS
  have h3' := h3
  rw [addB_iff] at h3'
  refine ⟨h1, ⟨h3'.1, h3'.2.1⟩, fun l hl => ?_, fun y hy => ?_, fun y hy => ?_, fun stay => ?_⟩
  · have := absN_pos (hR _ (h2 l hl)).1
    exact ⟨this.1, this.2.1⟩
  · obtain ⟨l, _, rfl⟩ := List.mem_map.1 hy
    rw [meanL_ph]
    exact ph_bnd (BndM.mean hB l)
  · obtain ⟨l, hl, rfl⟩ := List.mem_map.1 hy
    rw [meanL_ph]
    exact fun e => meanL_nz hN (h2 l hl) (hR _ (h2 l hl)).1 ((ph_0 (BndM.mean hB l)).1 e)
  · have hone : mayGates S [g] = some (upd S g.var.toNat true) := mayGates_one h1 h2 h3
    have := gates_ph [g] M' S _ stay hB hN hR hone
    simp only [List.foldl_cons, List.foldl_nil] at this
    obtain ⟨k1, k2, k3⟩ := this
    exact ⟨_, _, S', congrArg Prod.fst k1, k2, k3, hR.upd h3, h4⟩
theorem reachT_fix : ∀ (gs : List PGate) (U : Nat → Bool) (i : Nat), (∀ g ∈ gs, ∀ l ∈ g.ins, absN l ≠ i) → reachT U gs i = U i
  | [], U, i, _ => rfl
  | g :: gs, U, i, h => by
    have hm : markS U g.ins i = U i := by
      rw [markS_up]
      have : (g.ins.any fun l => absN l == i) = false := by
        rw [List.any_eq_false]
        intro l hl
        simpa using h g (by simp) l hl
      rw [this, Bool.or_false]
    unfold reachT
    split
    · rw [reachT_fix gs _ i (fun x hx => h x (by simp [hx])), hm]
    · exact reachT_fix gs _ i (fun x hx => h x (by simp [hx]))
/-- What is reached from the end is what the whole set has. -/
theorem reach_filter : ∀ (gs : List PGate) (U S0 S1 : Nat → Bool), mayGates S0 gs.reverse = some S1 → (reachG U gs).reverse = gs.reverse.filter fun x => reachT U gs x.var.toNat
  | [], U, S0, S1, _ => rfl
  | g :: gs, U, S0, S1, h => by
    rw [List.reverse_cons, mayGates_append] at h
    cases hS : mayGates S0 gs.reverse with
    | none => rw [hS] at h; cases h
    | some S2 =>
      rw [hS] at h
      have h' : mayGates S2 [g] = some S1 := h
      obtain ⟨h1, h2, h3, -⟩ := mayGates_cons h'
      have hno : S2 g.var.toNat = false := (addB_iff.1 h3).2.2
      have hk := may_known gs.reverse hS
      have hfar : ∀ x ∈ gs, ∀ l ∈ x.ins, absN l ≠ g.var.toNat := fun x hx l hl e => by
        have := hk x (by simpa using hx) l hl
        rw [e, hno] at this
        cases this
      have hself : ∀ l ∈ g.ins, absN l ≠ g.var.toNat := fun l hl e => by
        have := h2 l hl
        rw [e, hno] at this
        cases this
      have hm : markS U g.ins g.var.toNat = U g.var.toNat := by
        rw [markS_up]
        have : (g.ins.any fun l => absN l == g.var.toNat) = false := by
          rw [List.any_eq_false]
          intro l hl
          simpa using hself l hl
        rw [this, Bool.or_false]
      rw [List.reverse_cons, List.filter_append]
      unfold reachG
      by_cases hU : U g.var.toNat = true
      · have eT : reachT U (g :: gs) = reachT (markS U g.ins) gs := by rw [reachT, if_pos hU]
        rw [if_pos hU, List.reverse_cons, reach_filter gs (markS U g.ins) S0 S2 hS, eT]
        congr 1
        rw [List.filter_cons, if_pos (by rw [reachT_fix gs _ _ hfar, hm]; exact hU)]
        rfl
      · have eT : reachT U (g :: gs) = reachT U gs := by rw [reachT, if_neg hU]
        rw [if_neg hU, reach_filter gs U S0 S2 hS, eT, List.filter_cons, if_neg (by rw [reachT_fix gs _ _ hfar]; exact hU)]
        simp
/-- The end. -/
structure EndR (N : PNet) (a : List Int) (M : Nat → Int) (stay : List PGate) : Prop where
  out : -65536 ≤ N.out ∧ N.out ≤ 65536
  val : -1000000 ≤ meanL M N.out ∧ meanL M N.out ≤ 1000000
  lit : meanL M N.out ≠ 1000000 → meanL M N.out ≠ -1000000 → 1 ≤ absN (meanL M N.out)
  vars : ∀ g ∈ stay, 1 ≤ g.var ∧ g.var ≤ 65536
  ins : ∀ g ∈ stay, ∀ l ∈ g.ins, 1 ≤ absN l
  eq : simpleP 65537 N a = endP 1000000 (withoutP (markS noS a) N.pre) (meanL M N.out) stay
  filt : meanL M N.out ≠ 1000000 → meanL M N.out ≠ -1000000 → simpleP 65537 N a = ⟨withoutP (markS noS a) N.pre, stay.filter fun x => reachT (upd noS (absN (meanL M N.out)) true) stay.reverse x.var.toNat, meanL M N.out⟩
  wide : (prefFrom none 0 noS (withoutP (markS noS a) N.pre)).isSome = true
  set : (prefFrom none 0 noS (withoutP (markS noS a) N.pre)).getD noS = fun i : Nat => decide ((i : Int) ∈ varsOf (withoutP (markS noS a) N.pre))
  few : (varsOf (withoutP (markS noS a) N.pre)).length ≤ 1024
  small : ∀ y ∈ varsOf (withoutP (markS noS a) N.pre), 1 ≤ y ∧ y ≤ 65536
theorem end_R {N : PNet} (hM : mayP N = true) {a : List Int} {M : Nat → Int} {stay : List PGate} (h : simpleM 1000000 N a = (M, stay)) : EndR N a M stay := by
  obtain ⟨h1, h2, S, h3, h4, h5⟩ := simpleM_ph hM a
  have hl := may_lits hM
  have ho := absN_pos hl.2
  have eM : M = fun i => ph ((simpleM 65537 N a).1 i) := by rw [h] at h1; exact congrArg Prod.fst h1
  have eS : stay = (simpleM 65537 N a).2 := by rw [h] at h1; exact congrArg Prod.snd h1
  have hb := BndM.mean h2 N.out
  have hnz := meanL_nz h5 h4 hl.2
  have ok := simpleM_ok hM a (fun _ => false) (fun i => mv (fun _ => false) (fixM 65537 (varM noM (varsOf N.pre)) a i)) (fun i _ => rfl)
  obtain ⟨hp, _, _⟩ := mayP_pre hM
  have hps : (prefFrom none 0 noS N.pre).isSome = true := by rw [hp]; rfl
  have hws := without_some hps (markS noS a)
  obtain ⟨Ss, hSs⟩ : ∃ Ss, mayGates (preS ⟨withoutP (markS noS a) N.pre, [], 0⟩) (simpleM 65537 N a).2 = some Ss := by
    have := ok.may
    cases hq : mayGates (preS ⟨withoutP (markS noS a) N.pre, [], 0⟩) (simpleM 65537 N a).2 with
    | some S => exact ⟨S, rfl⟩
    | none => rw [hq] at this; cases this
  have hR : SetR (preS ⟨withoutP (markS noS a) N.pre, [], 0⟩) := preS_R hws
  have em : meanL M N.out = ph (meanL (simpleM 65537 N a).1 N.out) := by rw [eM, meanL_ph]
  have eE : simpleP 65537 N a = endP 1000000 (withoutP (markS noS a) N.pre) (meanL M N.out) stay := by
    rw [← simpleP_ph hM a]
    unfold simpleP
    rw [h]
  have hr := pre_rng (N := ⟨withoutP (markS noS a) N.pre, [], 0⟩) hws
  refine ⟨⟨ho.1, ho.2.1⟩, ?_, fun n1 n2 => ?_, ?_, ?_, eE, fun n1 n2 => ?_, hws, ?_, hr.2, hr.1⟩
  · rw [em]; exact ph_bnd hb
  · rw [em] at n1 n2 ⊢
    have k1 : meanL (simpleM 65537 N a).1 N.out ≠ 65537 := fun e => n1 (by rw [e]; rfl)
    have k2 : meanL (simpleM 65537 N a).1 N.out ≠ -65537 := fun e => n2 (by rw [e]; rfl)
    rw [ph_id k1 k2]
    generalize meanL (simpleM 65537 N a).1 N.out = x at hb hnz k1 k2
    unfold absN absI
    omega
  · intro g hg
    rw [eS] at hg
    exact (mayGates_all hSs g hg).2
  · intro g hg
    rw [eS] at hg
    exact (mayGates_lits _ hR hSs).2.1 g hg
  · rw [eE]
    unfold endP
    rw [if_neg (by rintro (h | h); exact n1 h; exact n2 h), ← eS] at *
    rw [reach_filter stay.reverse _ _ Ss (by rw [List.reverse_reverse]; exact hSs), List.reverse_reverse]
  · funext i
    exact preS_iff (N := ⟨withoutP (markS noS a) N.pre, [], 0⟩) hws i
end Go.Proofs.Ytnlobmepajakcaa
