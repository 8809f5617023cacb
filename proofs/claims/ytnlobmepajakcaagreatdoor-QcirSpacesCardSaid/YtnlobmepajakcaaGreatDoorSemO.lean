/- What Order gives, in plain words; no condition. -/
import Derived.Test.YtnlobmepajakcaaGreatDoorPlain
import Derived.Test.YtnlobmepajakcaaGreatDoorRef
set_option linter.unusedVariables false
set_option linter.unusedSimpArgs false
namespace Go.Proofs.YtnlobmepajakcaaGreatDoor
open Go.RowKit Go.Shelf

def readyG (S : Nat → Bool) (g : PGate) : Bool := !(g.ins.any fun l => !S (absN l))
/-- The first gate that is ready, and the others. -/
def pickG (S : Nat → Bool) : List PGate → Option (PGate × List PGate)
  | [] => none
  | g :: gs => if readyG S g = true then some (g, gs) else (pickG S gs).map fun r => (r.1, g :: r.2)
def ordGo : Nat → (Nat → Bool) → List PGate → List PGate → Option (List PGate)
  | 0, _, out, _ => some out
  | n + 1, S, out, left => match pickG S left with
    | none => none
    | some r => ordGo n (upd S r.1.var.toNat true) (out ++ [r.1]) r.2
def addIns : (Nat → Bool) → List Int → Option (Nat → Bool)
  | S, [] => some S
  | S, v :: vs => if addB S v = true then addIns (upd S v.toNat true) vs else none
def addGs : (Nat → Bool) → List PGate → Option (Nat → Bool)
  | S, [] => some S
  | S, g :: gs => if shapedB g.kind g.ins.length = false then none else if addB S g.var = true then addGs (upd S g.var.toNat true) gs else none
def strangeG (A : Nat → Bool) (gates : List PGate) : Bool := gates.any fun g => g.ins.any fun l => !A (absN l)
def orderP (ins : List Int) (gates : List PGate) : List PGate × Int :=
  match addIns noS ins with
  | none => ([], 2)
  | some S0 => match addGs S0 gates with
    | none => ([], 2)
    | some A => if strangeG A gates = true then ([], 2) else if 200000 < litSum gates then ([], 3) else
      match ordGo gates.length S0 [] gates with
      | none => ([], 50)
      | some out => (out, 0)

theorem readyG_iff {S : Nat → Bool} {g : PGate} : readyG S g = true ↔ ∀ l ∈ g.ins, S (absN l) = true := by
  unfold readyG
  simp
theorem addIns_vars : ∀ (vs : List Int) {n : Nat} {S : Nat → Bool} {r : Nat × (Nat → Bool)}, addVars n S vs = some r → addIns S vs = some r.2
  | [], n, S, r, h => by injection h with h; subst h; rfl
  | x :: xs, n, S, r, h => by
    obtain ⟨h1, h2, h3⟩ := addVars_cons h
    unfold addIns
    rw [if_pos h2]
    exact addIns_vars xs h3
theorem addIns_pre {N : PNet} (hM : mayP N = true) : addIns noS (varsOf N.pre) = some (preS N) := by
  obtain ⟨_, r, hr, e, _⟩ := preS_of (N := N) (by rw [(mayP_pre hM).1]; rfl)
  rw [e]; exact addIns_vars _ hr
/-- The gates have their shapes, and their variables are new and differ. -/
structure GoodG (S : Nat → Bool) (gs : List PGate) : Prop where
  each : ∀ g ∈ gs, shapedB g.kind g.ins.length = true ∧ addB S g.var = true
  diff : gs.Pairwise fun x y => x.var ≠ y.var
theorem good_of_may : ∀ (gs : List PGate) {S S' : Nat → Bool}, mayGates S gs = some S' → GoodG S gs
  | [], S, S', h => ⟨fun g hg => absurd hg List.not_mem_nil, List.Pairwise.nil⟩
  | x :: gs, S, S', h => by
    obtain ⟨h1, h2, h3, h4⟩ := mayGates_cons h
    have ih := good_of_may gs h4
    have key : ∀ g ∈ gs, addB S g.var = true ∧ x.var ≠ g.var := fun g hg => by
      have := (ih.each g hg).2
      rw [addB_iff] at this
      obtain ⟨k1, k2, k3⟩ := this
      rw [addB_iff] at h3
      unfold upd at k3
      split at k3
      · cases k3
      · rename_i hne
        exact ⟨addB_iff.2 ⟨k1, k2, k3⟩, fun e => hne (by rw [e])⟩
    refine ⟨fun g hg => ?_, List.pairwise_cons.2 ⟨fun g hg => (key g hg).2, ih.diff⟩⟩
    rcases List.mem_cons.1 hg with rfl | hg
    · exact ⟨h1, h3⟩
    · exact ⟨(ih.each g hg).1, (key g hg).1⟩
theorem GoodG.perm {S : Nat → Bool} {gs l : List PGate} (h : GoodG S gs) (hp : l.Perm gs) : GoodG S l :=
  ⟨fun g hg => h.each g (hp.mem_iff.1 hg), (hp.pairwise_iff (fun h => h.symm)).2 h.diff⟩
theorem addGs_good : ∀ (gs : List PGate) {S : Nat → Bool}, GoodG S gs → addGs S gs = some (usedG S gs)
  | [], S, h => rfl
  | x :: gs, S, h => by
    obtain ⟨h1, h2⟩ := h.each x (.head _)
    have hd := (List.pairwise_cons.1 h.diff).1
    unfold addGs
    rw [if_neg (by rw [h1]; simp), if_pos h2]
    have : GoodG (upd S x.var.toNat true) gs := ⟨fun g hg => ⟨(h.each g (.tail _ hg)).1, by
      have := (h.each g (.tail _ hg)).2
      rw [addB_iff] at this h2 ⊢
      refine ⟨this.1, this.2.1, ?_⟩
      unfold upd
      rw [if_neg (fun e => hd g hg (by omega))]
      exact this.2.2⟩, (List.pairwise_cons.1 h.diff).2⟩
    rw [addGs_good gs this]; rfl
theorem may_used : ∀ (gs : List PGate) {S S' : Nat → Bool}, mayGates S gs = some S' → S' = usedG S gs
  | [], S, S', h => by injection h with h; exact h.symm
  | x :: gs, S, S', h => by
    obtain ⟨h1, h2, h3, h4⟩ := mayGates_cons h
    exact may_used gs h4
theorem used_mono (gs : List PGate) (S : Nat → Bool) (i : Nat) (h : S i = true) : usedG S gs i = true := by rw [usedG_iff, h]; rfl
theorem may_known : ∀ (gs : List PGate) {S S' : Nat → Bool}, mayGates S gs = some S' → ∀ g ∈ gs, ∀ l ∈ g.ins, S' (absN l) = true
  | [], S, S', h, g, hg => by cases hg
  | x :: gs, S, S', h, g, hg => by
    obtain ⟨h1, h2, h3, h4⟩ := mayGates_cons h
    rcases List.mem_cons.1 hg with rfl | hg
    · intro l hl
      rw [may_used gs h4]
      refine used_mono _ _ _ ?_
      unfold upd; split; rfl; exact h2 l hl
    · exact may_known gs h4 g hg
theorem usedG_perm {gs l : List PGate} (hp : l.Perm gs) (S : Nat → Bool) : usedG S l = usedG S gs := by
  funext i
  rw [usedG_iff, usedG_iff]
  congr 1
  rw [Bool.eq_iff_iff, List.any_eq_true, List.any_eq_true]
  exact ⟨fun ⟨g, hg, h⟩ => ⟨g, hp.mem_iff.1 hg, h⟩, fun ⟨g, hg, h⟩ => ⟨g, hp.mem_iff.2 hg, h⟩⟩
theorem litSum_perm {gs l : List PGate} (hp : l.Perm gs) : litSum l = litSum gs := by
  induction hp with
  | nil => rfl
  | cons x _ ih => simp only [litSum, ih]
  | swap x y l => simp only [litSum]; omega
  | trans _ _ ih1 ih2 => rw [ih1, ih2]
theorem ord_same : ∀ (gs out : List PGate) {S S' : Nat → Bool}, mayGates S gs = some S' → ordGo gs.length S out gs = some (out ++ gs)
  | [], out, S, S', h => by simp [ordGo]
  | g :: gs, out, S, S', h => by
    obtain ⟨h1, h2, h3, h4⟩ := mayGates_cons h
    rw [List.length_cons]
    unfold ordGo pickG
    rw [if_pos (readyG_iff.2 h2)]
    simp only
    rw [ord_same gs (out ++ [g]) h4]
    simp
theorem strange_no {A : Nat → Bool} {gates : List PGate} (h : ∀ g ∈ gates, ∀ l ∈ g.ins, A (absN l) = true) : strangeG A gates = false := by
  unfold strangeG
  rw [List.any_eq_false]
  intro g hg
  rw [List.any_eq_true]
  rintro ⟨l, hl, hc⟩
  rw [h g hg l hl] at hc
  cases hc
theorem order_same {N : PNet} (hM : mayP N = true) : orderP (varsOf N.pre) N.gates = (N.gates, 0) := by
  obtain ⟨_, hl, S, hS, _⟩ := mayP_pre hM
  unfold orderP
  rw [addIns_pre hM]
  simp only
  rw [addGs_good _ (good_of_may _ hS)]
  simp only
  rw [if_neg (by rw [strange_no (fun g hg l hl => by rw [← may_used _ hS]; exact may_known _ hS g hg l hl)]; simp), if_neg (by omega), ord_same _ [] hS]
  rfl
theorem pick_some : ∀ (left : List PGate) {S : Nat → Bool}, (∃ v ∈ left, readyG S v = true) → ∃ g l, pickG S left = some (g, l) ∧ readyG S g = true ∧ left.Perm (g :: l)
  | [], S, h => by obtain ⟨v, hv, _⟩ := h; cases hv
  | x :: left, S, h => by
    unfold pickG
    by_cases hx : readyG S x = true
    · rw [if_pos hx]; exact ⟨x, left, rfl, hx, List.Perm.refl _⟩
    · rw [if_neg hx]
      obtain ⟨v, hv, hr⟩ := h
      rcases List.mem_cons.1 hv with rfl | hv
      · exact absurd hr hx
      · obtain ⟨g, l, h1, h2, h3⟩ := pick_some left ⟨v, hv, hr⟩
        rw [h1]
        exact ⟨g, x :: l, rfl, h2, ((List.Perm.cons x h3)).trans (List.Perm.swap _ _ _)⟩
theorem upd_comm {α : Type} (S : Nat → α) {i j : Nat} (x y : α) (h : i ≠ j) : upd (upd S i x) j y = upd (upd S j y) i x := by
  funext k
  unfold upd
  by_cases h1 : k = j
  · rw [if_pos h1, if_neg (fun e => h (e.symm.trans h1)), if_pos h1]
  · rw [if_neg h1]
    by_cases h2 : k = i
    · rw [if_pos h2, if_pos h2]
    · rw [if_neg h2, if_neg h2, if_neg h1]
theorem may_erase : ∀ (vs : List PGate) {S S' : Nat → Bool} {g : PGate}, mayGates S vs = some S' → g ∈ vs → readyG S g = true → mayGates (upd S g.var.toNat true) (vs.erase g) = some S'
  | [], S, S', g, h, hg, hr => by cases hg
  | v :: vs, S, S', g, h, hg, hr => by
    have hgood := good_of_may _ h
    obtain ⟨h1, h2, h3, h4⟩ := mayGates_cons h
    by_cases e : v = g
    · subst e
      rw [List.erase_cons_head]; exact h4
    · have hg' : g ∈ vs := by
        rcases List.mem_cons.1 hg with h | h
        · exact absurd h.symm e
        · exact h
      have hne : v.var ≠ g.var := (List.pairwise_cons.1 hgood.diff).1 g hg'
      have hgv := (hgood.each g hg).2
      rw [addB_iff] at hgv
      rw [List.erase_cons_tail (by simpa using e)]
      have h3' := h3
      rw [addB_iff] at h3
      have hnn : v.var.toNat ≠ g.var.toNat := by omega
      rw [mayGates_yes' (S := upd S g.var.toNat true) (addB_iff.2 ⟨h3.1, h3.2.1, by unfold upd; rw [if_neg hnn]; exact h3.2.2⟩) h1 (fun l hl => by unfold upd; split; rfl; exact h2 l hl)]
      rw [upd_comm S true true (fun e => hnn e.symm)]
      exact may_erase vs h4 hg' (by
        rw [readyG_iff] at hr ⊢
        intro l hl; unfold upd; split; rfl; exact hr l hl)
where
  mayGates_yes' {S : Nat → Bool} {g : PGate} {gs : List PGate} (h1 : addB S g.var = true) (h2 : shapedB g.kind g.ins.length = true) (h3 : ∀ l ∈ g.ins, S (absN l) = true) : mayGates S (g :: gs) = mayGates (upd S g.var.toNat true) gs := by
    rw [mayGates, if_neg (by rw [h2]; simp), if_neg (by simpa using h3), if_pos h1]
theorem may_step {S : Nat → Bool} {g : PGate} {gs : List PGate} (h1 : addB S g.var = true) (h2 : shapedB g.kind g.ins.length = true) (h3 : ∀ l ∈ g.ins, S (absN l) = true) : mayGates S (g :: gs) = mayGates (upd S g.var.toNat true) gs := by
  rw [mayGates, if_neg (by rw [h2]; simp), if_neg (by simpa using h3), if_pos h1]
theorem ord_perm : ∀ (n : Nat) (left out vs : List PGate) {S S' : Nat → Bool}, left.length = n → mayGates S vs = some S' → vs.Perm left → ∃ o, ordGo n S out left = some (out ++ o) ∧ o.Perm left ∧ mayGates S o = some S'
  | 0, left, out, vs, S, S', hn, h, hp => by
    have : left = [] := List.eq_nil_of_length_eq_zero hn
    subst this
    have : vs = [] := hp.eq_nil
    subst this
    exact ⟨[], by simp [ordGo], List.Perm.nil, h⟩
  | n + 1, left, out, vs, S, S', hn, h, hp => by
    have hready : ∃ v ∈ left, readyG S v = true := by
      match vs, h, hp with
      | [], h, hp => have := hp.length_eq; simp at this; omega
      | v :: vs, h, hp => exact ⟨v, hp.mem_iff.1 (.head _), readyG_iff.2 (mayGates_cons h).2.1⟩
    obtain ⟨g, l, k1, k2, k3⟩ := pick_some left hready
    have hgv : g ∈ vs := hp.mem_iff.2 (k3.mem_iff.2 (.head _))
    have hme := may_erase vs h hgv k2
    have hpe : (vs.erase g).Perm l := ((List.perm_cons_erase hgv).symm.trans (hp.trans k3)).cons_inv
    obtain ⟨o, q1, q2, q3⟩ := ord_perm n l (out ++ [g]) (vs.erase g) (by have := k3.length_eq; simp at this; omega) hme hpe
    unfold ordGo
    rw [k1]
    simp only
    have hge := (good_of_may _ h).each g hgv
    refine ⟨g :: o, by rw [q1]; simp, (List.Perm.cons g q2).trans k3.symm, ?_⟩
    rw [may_step hge.2 hge.1 (readyG_iff.1 k2)]
    exact q3
theorem vals_keep : ∀ (gs : List PGate) {S S' : Nat → Bool} (V : Nat → Bool), mayGates S gs = some S' → ∀ i, S i = true → valsG V gs i = V i
  | [], S, S', V, h, i, hi => rfl
  | g :: gs, S, S', V, h, i, hi => by
    obtain ⟨h1, h2, h3, h4⟩ := mayGates_cons h
    rw [addB_iff] at h3
    have hne : i ≠ g.var.toNat := fun e => by rw [← e, hi] at h3; exact absurd h3.2.2 (by simp)
    show valsG (upd V g.var.toNat _) gs i = _
    rw [vals_keep gs _ h4 i (by unfold upd; rw [if_neg hne]; exact hi)]
    unfold upd; rw [if_neg hne]
theorem gateV_congr {V W : Nat → Bool} {ins : List Int} (k : Int) (h : ∀ l ∈ ins, V (absN l) = W (absN l)) : gateV V k ins = gateV W k ins := by
  rw [gateV_W, gateV_W]
  exact gateW_congr k (fun x hx => by unfold holdsV; rw [h x hx])
theorem vals_fix : ∀ (gs : List PGate) {S S' : Nat → Bool} (V : Nat → Bool), mayGates S gs = some S' → ∀ g ∈ gs, valsG V gs g.var.toNat = gateV (valsG V gs) g.kind g.ins
  | [], S, S', V, h, g, hg => by cases hg
  | x :: gs, S, S', V, h, g, hg => by
    obtain ⟨h1, h2, h3, h4⟩ := mayGates_cons h
    rcases List.mem_cons.1 hg with rfl | hg
    · show valsG (upd V g.var.toNat (gateV V g.kind g.ins)) gs g.var.toNat = gateV (valsG (upd V g.var.toNat (gateV V g.kind g.ins)) gs) g.kind g.ins
      rw [vals_keep gs _ h4 _ (by unfold upd; rw [if_pos rfl])]
      have : upd V g.var.toNat (gateV V g.kind g.ins) g.var.toNat = gateV V g.kind g.ins := by unfold upd; rw [if_pos rfl]
      rw [this]
      refine gateV_congr _ (fun l hl => ?_)
      have hs := h2 l hl
      rw [addB_iff] at h3
      have hne : absN l ≠ g.var.toNat := fun e => by rw [← e, hs] at h3; exact absurd h3.2.2 (by simp)
      rw [vals_keep gs _ h4 _ (by unfold upd; rw [if_neg hne]; exact hs)]
      unfold upd; rw [if_neg hne]
    · exact vals_fix gs _ h4 g hg
theorem vals_uniq : ∀ (gs : List PGate) {S S' : Nat → Bool} (V W : Nat → Bool), mayGates S gs = some S' → (∀ i, S i = true → W i = V i) → (∀ g ∈ gs, W g.var.toNat = gateV W g.kind g.ins) → ∀ i, S' i = true → W i = valsG V gs i
  | [], S, S', V, W, h, h0, hf, i, hi => by injection h with h; subst h; exact h0 i hi
  | x :: gs, S, S', V, W, h, h0, hf, i, hi => by
    obtain ⟨h1, h2, h3, h4⟩ := mayGates_cons h
    refine vals_uniq gs (upd V x.var.toNat (gateV V x.kind x.ins)) W h4 (fun j hj => ?_) (fun g hg => hf g (.tail _ hg)) i hi
    unfold upd at hj ⊢
    by_cases e : j = x.var.toNat
    · rw [if_pos e, e, hf x (.head _)]
      exact gateV_congr _ (fun l hl => h0 _ (h2 l hl))
    · rw [if_neg e] at hj ⊢
      exact h0 j hj
theorem order_perm {N : PNet} (hM : mayP N = true) {l : List PGate} (hp : l.Perm N.gates) : ∃ o, orderP (varsOf N.pre) l = (o, 0) ∧ o.length = l.length ∧ mayP ⟨N.pre, o, N.out⟩ = true ∧ o.Perm l ∧
    ∀ a, evalP ⟨N.pre, o, N.out⟩ a = evalP N a := by
  obtain ⟨hpre, hl, S, hS, ho⟩ := mayP_pre hM
  have hgood := (good_of_may _ hS).perm hp
  obtain ⟨o, q1, q2, q3⟩ := ord_perm l.length l [] N.gates rfl hS hp.symm
  rw [List.nil_append] at q1
  have hM2 : mayP ⟨N.pre, o, N.out⟩ = true := mayP_of (N := ⟨N.pre, o, N.out⟩) (S := S) (by rw [hpre]; rfl) (by show litSum o ≤ _; rw [litSum_perm q2, litSum_perm hp]; exact hl) q3 ho
  refine ⟨o, ?_, q2.length_eq, hM2, q2, fun a => ?_⟩
  · unfold orderP
    rw [addIns_pre hM]
    simp only
    rw [addGs_good _ hgood]
    simp only
    rw [if_neg (by rw [strange_no (fun g hg l hl => by rw [usedG_perm hp, ← may_used _ hS]; exact may_known _ hS g (hp.mem_iff.1 hg) l hl)]; simp), if_neg (by rw [litSum_perm hp]; omega), q1]
  · unfold evalP
    rw [hM, hM2]
    by_cases hn : normFrom 0 a = true
    · rw [hn]
      simp only [Bool.and_true, if_true]
      congr 1
      have e : valsP ⟨N.pre, o, N.out⟩ a (absN N.out) = valsP N a (absN N.out) := by
        show valsG (valsA (preS N) noS a) o (absN N.out) = valsG (valsA (preS N) noS a) N.gates (absN N.out)
        refine vals_uniq N.gates (valsA (preS N) noS a) (valsG (valsA (preS N) noS a) o) hS (fun i hi => vals_keep o _ q3 i hi) (fun g hg => vals_fix o _ q3 g ((q2.trans hp).mem_iff.2 hg)) _ ho
      show (valsP ⟨N.pre, o, N.out⟩ a (absN N.out) == _) = (valsP N a (absN N.out) == _)
      rw [e]
    · have : normFrom 0 a = false := by simpa using hn
      rw [this]
      simp

theorem evalP_ok {N : PNet} {a : List Int} (hM : mayP N = true) (hn : normFrom 0 a = true) : evalP N a = (holdsV (valsP N a) N.out, 0) := by
  unfold evalP; rw [hM, hn]; rfl
end Go.Proofs.YtnlobmepajakcaaGreatDoor
