/- The simplification of a net, in plain words; what is kept of the gates that stay; no condition. -/
import Derived.Test.YtnlobmepajakcaaWorked
import Derived.Test.YtnlobmepajakcaaSimpl
import Derived.Test.YtnlobmepajakcaaReached
import Derived.Test.YtnlobmepajakcaaIdx
import Derived.Test.YtnlobmepajakcaaRev
set_option linter.unusedVariables false
set_option linter.unusedSimpArgs false
namespace Go.Proofs.Ytnlobmepajakcaa
open Go.RowKit Go.Shelf

def noM : Nat → Int := fun _ => 0
def varM (M : Nat → Int) (vs : List Int) : Nat → Int := vs.foldl (fun M v => upd M v.toNat v) M
def fixM (T : Int) (M : Nat → Int) (a : List Int) : Nat → Int := a.foldl (fun M l => upd M (absN l) (if l < 0 then -T else T)) M
def gateStep (T : Int) (st : (Nat → Int) × List PGate) (g : PGate) : (Nat → Int) × List PGate :=
  let r := simplP T g.kind (g.ins.map (meanL st.1))
  if r.1 = 0 then (upd st.1 g.var.toNat g.var, st.2 ++ [⟨g.var, r.2.1, r.2.2⟩]) else (upd st.1 g.var.toNat r.1, st.2)
def gatesP (T : Int) (M : Nat → Int) (gs : List PGate) : (Nat → Int) × List PGate := gs.foldl (gateStep T) (M, [])
/-- The gates that are reached, the last one first. -/
def reachG (S : Nat → Bool) : List PGate → List PGate
  | [] => []
  | g :: gs => if S g.var.toNat = true then g :: reachG (markS S g.ins) gs else reachG S gs
theorem reachL_map (S : Nat → Bool) : ∀ xs : List PE, (reachL S xs).map (·.2.1) = reachG S (xs.map (·.2.1))
  | [] => rfl
  | x :: xs => by
    simp only [reachL, List.map_cons, reachG]
    split
    · rw [List.map_cons, reachL_map]
    · exact reachL_map S xs
def endP (T : Int) (p : List PBlock) (o : Int) (stay : List PGate) : PNet :=
  if o = T ∨ o = -T then ⟨p, [⟨1 + freeI ((prefFrom none 0 noS p).getD noS) 1, 1, []⟩], if o = -T then -(1 + freeI ((prefFrom none 0 noS p).getD noS) 1) else 1 + freeI ((prefFrom none 0 noS p).getD noS) 1⟩
  else ⟨p, (reachG (upd noS (absN o) true) stay.reverse).reverse, o⟩
def simpleM (T : Int) (N : PNet) (a : List Int) : (Nat → Int) × List PGate := gatesP T (fixM T (varM noM (varsOf N.pre)) a) N.gates
def simpleP (T : Int) (N : PNet) (a : List Int) : PNet :=
  endP T (withoutP (markS noS a) N.pre) (meanL (simpleM T N a).1 N.out) (simpleM T N a).2

/-! ### Bounds -/
def BndM (M : Nat → Int) : Prop := ∀ i, -65537 ≤ M i ∧ M i ≤ 65537
theorem BndM.upd {M : Nat → Int} (h : BndM M) (i : Nat) {x : Int} (h1 : -65537 ≤ x) (h2 : x ≤ 65537) : BndM (upd M i x) := fun j => by
  unfold Ytnlobmepajakcaa.upd
  split
  · exact ⟨h1, h2⟩
  · exact h j
theorem BndM.mean {M : Nat → Int} (h : BndM M) (l : Int) : -65537 ≤ meanL M l ∧ meanL M l ≤ 65537 := by
  unfold meanL
  split
  · have := h (-l).toNat; omega
  · exact h l.toNat
theorem exclP_bnd {a b : Int} (ha : -65537 ≤ a ∧ a ≤ 65537) (hb : -65537 ≤ b ∧ b ≤ 65537) : -65537 ≤ exclP 65537 a b ∧ exclP 65537 a b ≤ 65537 := by
  unfold exclP
  repeat' split
  all_goals omega
theorem gatherP_bnd {skip : Int} {ls : List Int} (hs : -65537 ≤ skip ∧ skip ≤ 65537) (h : ∀ x ∈ ls, -65537 ≤ x ∧ x ≤ 65537) :
    (-65537 ≤ (gatherP skip ls).1 ∧ (gatherP skip ls).1 ≤ 65537) ∧ ∀ x ∈ (gatherP skip ls).2, x ∈ ls := by
  unfold gatherP
  cases hg : gatherGo skip [] ls with
  | none => exact ⟨by constructor <;> simp only <;> omega, fun x hx => by cases hx⟩
  | some out =>
    have hsub : ∀ x ∈ out, x ∈ ls := fun x hx => by
      rcases gatherGo_sub ls [] out hg x hx with h | h
      · cases h
      · exact h
    match out, hsub with
    | [], _ => exact ⟨hs, fun x hx => by cases hx⟩
    | [x], hsub => exact ⟨h x (hsub x (by simp)), fun x hx => by cases hx⟩
    | x :: y :: zs, hsub => exact ⟨by constructor <;> simp [gatherEnd], hsub⟩
theorem simplP_bnd {k : Int} {ls : List Int} (h : ∀ x ∈ ls, -65537 ≤ x ∧ x ≤ 65537) :
    (-65537 ≤ (simplP 65537 k ls).1 ∧ (simplP 65537 k ls).1 ≤ 65537) ∧ ∀ x ∈ (simplP 65537 k ls).2.2, -65537 ≤ x ∧ x ≤ 65537 := by
  have two : ∀ (s a b : Int), (-65537 ≤ s ∧ s ≤ 65537) → (-65537 ≤ a ∧ a ≤ 65537) → (-65537 ≤ b ∧ b ≤ 65537) →
      (-65537 ≤ (gatherP s [a, b]).1 ∧ (gatherP s [a, b]).1 ≤ 65537) ∧ ∀ x ∈ (gatherP s [a, b]).2, -65537 ≤ x ∧ x ≤ 65537 := fun s a b hs ha hb => by
    have hab : ∀ x ∈ [a, b], -65537 ≤ x ∧ x ≤ 65537 := fun x hx => by
      simp only [List.mem_cons, List.not_mem_nil, or_false] at hx
      rcases hx with rfl | rfl
      · exact ha
      · exact hb
    have := gatherP_bnd hs hab
    exact ⟨this.1, fun x hx => hab x (this.2 x hx)⟩
  unfold simplP
  split
  · split
    · rename_i a b
      have ha := h a (by simp)
      have hb := h b (by simp)
      split
      · exact ⟨exclP_bnd ha hb, h⟩
      · exact ⟨by constructor <;> simp, h⟩
    · exact ⟨by constructor <;> simp, h⟩
  · split
    · split
      · rename_i c a b
        have hc := h c (by simp)
        have ha := h a (by simp)
        have hb := h b (by simp)
        repeat' split
        · exact ⟨ha, h⟩
        · exact ⟨hb, h⟩
        · exact two _ _ _ (by omega) hc hb
        · exact two _ _ _ (by omega) (by omega) hb
        · exact two _ _ _ (by omega) (by omega) ha
        · exact two _ _ _ (by omega) hc ha
        · exact ⟨by constructor <;> simp, h⟩
      · exact ⟨by constructor <;> simp, h⟩
    · split
      · have := gatherP_bnd (skip := 65537) (by omega) h
        exact ⟨this.1, fun x hx => h x (this.2 x hx)⟩
      · have := gatherP_bnd (skip := -65537) (by omega) h
        exact ⟨this.1, fun x hx => h x (this.2 x hx)⟩

theorem simplP_kind (T k : Int) (ls : List Int) : 0 ≤ (simplP T k ls).2.1 ∧ (simplP T k ls).2.1 ≤ 255 := by
  unfold simplP
  repeat' split
  all_goals simp
theorem IntsAt.keptP {w w' : World} {v : Value} {xs : List Int} (h : IntsAt w v xs) {row : Option Nat} (hg : w.grownBy w' row) (hne : 0 < xs.length → ∀ b, v.ownBlock = some b → row ≠ some b) : IntsAt w' v xs := by
  obtain ⟨A', c', rfl, k1, k2, k3⟩ := h
  refine ⟨A', c', rfl, k1, k2, fun hp => ?_⟩
  obtain ⟨b, off, rfl, k4⟩ := k3 hp
  exact ⟨b, off, rfl, fun j x hx => ⟨hg.cell (k4 j x hx).1 (fun e => hne hp b rfl e.symm), (k4 j x hx).2⟩⟩
/-! ### The gates that stay, as they lie in memory -/
/-- The row vo holds the gates; their literals lie from base on, in other blocks than the row. -/
def StayAt (w : World) (base : Nat) (vo : Value) (gs : List PGate) : Prop :=
  ∃ ts : List GT, ts.length = gs.length ∧ w.ownsRow base 70 3 vo gs.length (gcells ts) ∧ ∀ (i : Nat) (t : GT) (g : PGate), ts[i]? = some t → gs[i]? = some g →
    t.1 = g.var ∧ t.2.1 = g.kind ∧ (I64 g.var ∧ 0 ≤ g.kind ∧ g.kind ≤ 255) ∧ IntsAt w (.slice t.2.2.1 t.2.2.2.1 t.2.2.2.2) g.ins ∧
    (0 < g.ins.length → ∀ b, (Value.slice t.2.2.1 t.2.2.2.1 t.2.2.2.2).ownBlock = some b → vo.ownBlock ≠ some b ∧ base ≤ b ∧ b < w.heap.size)
theorem StayAt.nil (w : World) (base : Nat) : StayAt w base (.slice none 0 0) [] := ⟨[], rfl, World.ownsRow_nil _ _ _ _, fun i t g h => by simp at h⟩
/-- From base on nothing has turned. -/
theorem StayAt.keep {w w' : World} {base : Nat} {vo : Value} {gs : List PGate} (h : StayAt w base vo gs) (hs : w.heap.size ≤ w'.heap.size) (hk : ∀ k, base ≤ k → k < w.heap.size → w'.heap[k]? = w.heap[k]?) : StayAt w' base vo gs := by
  obtain ⟨ts, h1, h2, h3⟩ := h
  refine ⟨ts, h1, ?_, fun i t g ht hg => ?_⟩
  · rcases h2 with ⟨k1, k2 | ⟨g, cap, cur, k2, k3, k4, k5⟩⟩
    · exact ⟨k1, .inl k2⟩
    · exact ⟨k1, .inr ⟨g, cap, cur, k2, k3, (hk g k3 (Array.getElem?_eq_some_iff.1 k4).1).trans k4, k5⟩⟩
  · obtain ⟨a1, a2, a3, a4, a5⟩ := h3 i t g ht hg
    refine ⟨a1, a2, a3, ?_, fun hp b hb => ⟨(a5 hp b hb).1, (a5 hp b hb).2.1, Nat.lt_of_lt_of_le (a5 hp b hb).2.2 hs⟩⟩
    obtain ⟨A, c, e, k1, k2, k3⟩ := a4
    refine ⟨A, c, e, k1, k2, fun hp => ?_⟩
    obtain ⟨b, off, rfl, k4⟩ := k3 hp
    refine ⟨b, off, rfl, fun j x hx => ⟨(World.cell?_of_block (hk b ?_ ?_)).trans (k4 j x hx).1, (k4 j x hx).2⟩⟩
    · exact (a5 hp b (by rw [e]; rfl)).2.1
    · exact (a5 hp b (by rw [e]; rfl)).2.2
theorem StayAt.grown {w w' : World} {base : Nat} {vo : Value} {gs : List PGate} (h : StayAt w base vo gs) {row : Option Nat} (hg : w.grownBy w' row) (hr : ∀ r, row = some r → r < base) : StayAt w' base vo gs :=
  h.keep hg.size (fun k hk hk2 => hg.block k hk2 (fun e => by have := hr k e.symm; omega))
theorem StayAt.below {w w' : World} {base : Nat} {vo : Value} {gs : List PGate} (h : StayAt w base vo gs) (hB : Below w.heap.size w w') : StayAt w' base vo gs := h.grown (grown_of_below hB none) (fun r e => by cases e)
theorem StayAt.row {w : World} {base : Nat} {vo : Value} {gs : List PGate} (h : StayAt w base vo gs) : ∃ xs, w.ownsRow base 70 3 vo gs.length xs := by
  obtain ⟨ts, h1, h2, h3⟩ := h; exact ⟨_, h2⟩
theorem StayAt.push {w0 w w1 : World} {base : Nat} {vo vo1 : Value} {gs : List PGate} {x : PGate} {A : Option Addr} {n c : Nat} (h : StayAt w0 base vo gs) (hB : Below w0.heap.size w0 w) (h64 : I64 x.var ∧ 0 ≤ x.kind ∧ x.kind ≤ 255)
    (hi : IntsAt w (.slice A n c) x.ins) (hf : 0 < x.ins.length → ∀ b, (Value.slice A n c).ownBlock = some b → vo.ownBlock ≠ some b ∧ base ≤ b ∧ b < w.heap.size)
    (hrow : ∀ xs, w.ownsRow base 70 3 vo gs.length xs → w1.ownsRow base 70 3 vo1 (gs.length + 1) (xs ++ [.int .i64 x.var, .int .u8 x.kind, .slice A n c]))
    (hg : w.grownBy w1 vo.ownBlock) (hv1 : ∀ b, vo1.ownBlock = some b → vo.ownBlock = some b ∨ w.heap.size ≤ b) : StayAt w1 base vo1 (gs ++ [x]) := by
  obtain ⟨ts, h1, h2, h3⟩ := h
  have h2' := h2.kept (grown_of_below hB none) (by cases vo.ownBlock <;> simp)
  have hr := hrow _ h2'
  have keepI : ∀ (v : Value) (ys : List Int), IntsAt w v ys → (0 < ys.length → ∀ b, v.ownBlock = some b → vo.ownBlock ≠ some b) → IntsAt w1 v ys := fun v ys hi hn => by
    obtain ⟨A', c', rfl, k1, k2, k3⟩ := hi
    refine ⟨A', c', rfl, k1, k2, fun hp => ?_⟩
    obtain ⟨b, off, rfl, k4⟩ := k3 hp
    exact ⟨b, off, rfl, fun j x hx => ⟨hg.cell (k4 j x hx).1 (fun e => hn hp b rfl e.symm), (k4 j x hx).2⟩⟩
  have nv1 : ∀ b, vo.ownBlock ≠ some b → b < w.heap.size → vo1.ownBlock ≠ some b := fun b hb hlt e => by
    rcases hv1 b e with h | h
    · exact hb h
    · omega
  refine ⟨ts ++ [(x.var, x.kind, A, n, c)], by simp [h1], ?_, fun i t g ht hgi => ?_⟩
  · rw [gcells_snoc, List.length_append]; exact hr
  · by_cases hlt : i < ts.length
    · rw [List.getElem?_append_left hlt] at ht
      rw [List.getElem?_append_left (by omega)] at hgi
      obtain ⟨a1, a2, a3, a4, a5⟩ := h3 i t g ht hgi
      refine ⟨a1, a2, a3, keepI _ _ (a4.keep (keeps_below hB)) (fun hp b hb => (a5 hp b hb).1), fun hp b hb => ⟨nv1 b (a5 hp b hb).1 (Nat.lt_of_lt_of_le (a5 hp b hb).2.2 hB.size), (a5 hp b hb).2.1, ?_⟩⟩
      have := (a5 hp b hb).2.2; have := hB.size; have := hg.size; omega
    · have hil : i = ts.length := by have := (List.getElem?_eq_some_iff.1 ht).1; simp at this; omega
      subst hil
      rw [List.getElem?_concat_length] at ht
      rw [h1, List.getElem?_concat_length] at hgi
      injection ht with ht; injection hgi with hgi
      subst ht; subst hgi
      refine ⟨rfl, rfl, h64, keepI _ _ hi (fun hp b hb => (hf hp b hb).1), fun hp b hb => ⟨nv1 b (hf hp b hb).1 (hf hp b hb).2.2, (hf hp b hb).2.1, ?_⟩⟩
      have := (hf hp b hb).2.2; have := hg.size; omega
theorem StayAt.form {w : World} {base : Nat} {vo : Value} {gs : List PGate} (h : StayAt w base vo gs) : ∃ A c, vo = .slice A gs.length c ∧ gs.length ≤ c ∧ c ≤ 9223372036854775807 := by
  obtain ⟨ts, h1, h2, h3⟩ := h
  rcases h2 with ⟨k1, ⟨rfl, k2⟩ | ⟨g, cap, cur, rfl, k3, k4, k5, k6, k7⟩⟩
  · exact ⟨none, 0, by rw [k2], by omega, by omega⟩
  · exact ⟨_, cap, rfl, k5, by simpa [maxLen] using k6⟩
theorem gates_of_stay {w : World} {base : Nat} {vo : Value} {gs : List PGate} (h : StayAt w base vo gs) : GatesAt w vo gs := by
  obtain ⟨A, c, rfl, hc1, hc2⟩ := h.form
  obtain ⟨ts, h1, h2, h3⟩ := h
  refine ⟨A, c, rfl, hc1, hc2, fun hp => ?_⟩
  obtain ⟨g, cap, e, hb, hlt, hcap⟩ := own_form h2 hp
  cases e
  refine ⟨g, 0, rfl, fun j x hj => ?_⟩
  have hjl := (List.getElem?_eq_some_iff.1 hj).1
  obtain ⟨t, ht⟩ : ∃ t, ts[j]? = some t := ⟨_, List.getElem?_eq_getElem (by omega)⟩
  obtain ⟨a1, a2, a3, a4, a5⟩ := h3 j t x ht hj
  have hc : ∀ r, r < 3 → w.cell? ⟨g, j * 3 + r, none⟩ = (enc3 t)[r]? := fun r hr => by
    rw [h2.cellAt (j * 3 + r) (by omega), gcells_get ts j r t ht hr]
  rw [Nat.zero_add]
  exact ⟨by rw [← a1]; exact hc 0 (by omega), by rw [← a2]; exact hc 1 (by omega), a3.1, a3.2.1, a3.2.2, _, hc 2 (by omega), a4⟩
end Go.Proofs.Ytnlobmepajakcaa
