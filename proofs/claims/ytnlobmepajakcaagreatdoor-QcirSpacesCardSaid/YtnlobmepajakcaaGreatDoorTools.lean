/- Laws for regions that draw their order, for append, for maps of ints and for loops over iterators; no condition but what is asked. -/
import Derived.Test.YtnlobmepajakcaaGreatDoorBase
import Derived.StillTail
import Derived.Maps.AppendAt
import Derived.Deep.AppendLies
import Derived.RangeFuncRecord
import Derived.RangeFuncNested
import Derived.RangeFuncBound
import Derived.RangeFuncCalls
import Derived.RangeFuncLeaves
import Derived.Shelf.RegionOpen
import Derived.OwnWalkIn
import Derived.TacticsInMore
import Derived.LoopNIn
import Derived.LoopIn
set_option linter.unusedVariables false
set_option linter.unusedSimpArgs false
namespace Go.Proofs.YtnlobmepajakcaaGreatDoor
open Go.RowKit Go.Shelf

section
variable {P : Program} {ops : Array Oper} {md : Region.Mode} {C : World → Prop}
/-- Whatever order the first n operations come in, as long as f of them come up, they are quiet; then L holds. -/
def anyHead (P : Program) (md : Region.Mode) (ops : Array Oper) (C : World → Prop) (n : Nat) (L : Array Bool → Act → Prop) : Nat → Array Bool → Act → Prop
  | 0, listed, a => L listed a
  | f + 1, listed, a => Region.ready md ops listed ≠ [] ∧ ∀ i ∈ Region.ready md ops listed, i < n ∧ qOp P ops C i (anyHead P md ops C n L f (listed.setIfInBounds i true)) a
theorem any_of_head {n g : Nat} {L : Array Bool → Act → Prop} {Q' : Exit → Act → World → Prop} (hL : ∀ listed a w, C w → L listed a → wpAny P md ops Q' g listed a w) :
    ∀ (f : Nat) (listed : Array Bool) (a : Act) (w : World), C w → anyHead P md ops C n L f listed a → wpAny P md ops Q' (f + g) listed a w
  | 0, listed, a, w, hw, h => by rw [Nat.zero_add]; exact hL _ _ _ hw h
  | f + 1, listed, a, w, hw, h => by
    rw [show f + 1 + g = (f + g) + 1 by omega]
    exact ⟨fun h0 => absurd h0 h.1, fun i hi => wpOp_of_qOp hw (fun a' w' hw' h' => any_of_head hL f _ a' w' hw' h') (h.2 i hi).2⟩
theorem anyHead_first {n i : Nat} {oi : Oper} {v : Value} {L : Array Bool → Act → Prop} (hi : ops[i]? = some oi) (hsel : ∀ (j : Nat) (o : Oper) cs b, ops[j]? = some o → o.op ≠ .select cs b)
    (hs : Region.sinkB md ops n = true) (hc : Region.chainB md ops n = true) (hn : n < ops.size) (hin : i < n) (hdone : ∀ listed a, L listed a → ∀ j ∈ Region.ready md ops listed, n ≤ j) :
    ∀ (f : Nat) (listed : Array Bool) (a : Act), HeadInv md ops n listed →
      (∀ j oj, ops[j]? = some oj → j ≠ i → listed.getD j true = false → (∀ e ∈ oj.after, Region.binds md e = true → e.on ≠ i) → oi.apart ops oj = true) →
      i ∈ Region.ready md ops listed → YieldsIn P ops C oi v a →
      anyHead P md ops C n L f (listed.setIfInBounds i true) (a.put oi.dst v) → anyHead P md ops C n L (f + 1) listed a := by
  intro f
  induction f with
  | zero =>
    intro listed a inv _ hr hy H
    have hun := (mem_ready.1 hr).1
    refine ⟨fun h => (by rw [h] at hr; cases hr), fun j hj => ?_⟩
    have hjn : j < n := Nat.lt_of_not_le fun h => tail_waits hs hc hn inv _ i rfl hin hun j h hj
    refine ⟨hjn, ?_⟩
    by_cases hji : j = i
    · subst hji; exact hy.qOp hi H
    · have := hdone _ _ H j (ready_mono hj hji)
      omega
  | succ f ih =>
    intro listed a inv hfree hr hy H
    have hun := (mem_ready.1 hr).1
    refine ⟨fun h => (by rw [h] at hr; cases hr), fun j hj => ?_⟩
    have hjn : j < n := Nat.lt_of_not_le fun h => tail_waits hs hc hn inv _ i rfl hin hun j h hj
    refine ⟨hjn, ?_⟩
    by_cases hji : j = i
    · subst hji; exact hy.qOp hi H
    · have h1 := (H.2 j (ready_mono hj hji)).2
      obtain ⟨hjun, oj, hoj, hall⟩ := mem_ready.1 hj
      have hnot : ∀ e ∈ oj.after, Region.binds md e = true → e.on ≠ i := fun e he hb heq => by
        have h1 := hall e he hb
        rw [heq, getD_both hun] at h1
        cases h1
      have h2 := qOp_put hoj (hfree j oj hoj hji hjun hnot) (fun cs b => hsel i oi cs b hi) (fun cs b => hsel j oj cs b hoj) hy h1
      have hfree' : ∀ k ok, ops[k]? = some ok → k ≠ i → (listed.setIfInBounds j true).getD k true = false →
          (∀ e ∈ ok.after, Region.binds md e = true → e.on ≠ i) → oi.apart ops ok = true := fun k ok hk hki hun hno => by
        refine hfree k ok hk hki ?_ hno
        by_cases hjk : j = k
        · subst hjk; exact hjun
        · rw [getD_set_ne true hjk] at hun; exact hun
      refine qOp_mono (fun a' h3 => ih (listed.setIfInBounds j true) a' (inv.set hj hjn) hfree' (ready_mono hr (Ne.symm hji)) h3.1 ?_) h2
      rw [Array.setIfInBounds_comm _ _ hji]
      exact h3.2
theorem anyHead_lex {n g : Nat} {Lq : Act → Prop} (hsel : Region.noSelect ops = true) (hs : Region.sinkB md ops n = true) (hc : Region.chainB md ops n = true) (hn : n < ops.size) :
    ∀ (l : List Oper) (k : Nat) (listed : Array Bool) (a : Act), (∀ j, j < l.length → l[j]? = ops[k + j]?) → k + l.length = n → HeadInv md ops n listed →
    Region.lexHead md ops g l.length k listed = true → wpQuiet P ops C Lq l a →
    anyHead P md ops C n (fun listed' a' => Region.seqB md ops g n listed' = true ∧ Lq a') l.length listed a
  | [], k, listed, a, _, hk, _, hB, h => by
    have : k = n := by simpa using hk
    subst this
    exact ⟨by simpa [Region.lexHead] using hB, h⟩
  | o :: l, k, listed, a, hl, hk, inv, hB, h => by
    have h0 : ops[k]? = some o := by simpa using (hl 0 (by simp)).symm
    simp only [List.length_cons, Region.lexHead, Bool.and_eq_true] at hB
    obtain ⟨⟨hr, hf⟩, hB'⟩ := hB
    have hkn : k < n := by simp only [List.length_cons] at hk; omega
    have hr' : k ∈ Region.ready md ops listed := by simpa using hr
    have hst : qOp P ops C k (wpQuiet P ops C Lq l) a := by unfold qOp; simp only [h0]; exact h
    obtain ⟨v, hy, hK⟩ := yieldsIn_of_qOp h0 hst
    exact anyHead_first h0 (Region.noSelect_spec hsel) hs hc hn hkn (fun listed' a' hL => seqB_ready hL.1) l.length listed a inv (Region.free_spec h0 hf) hr' hy
      (anyHead_lex hsel hs hc hn l (k + 1) _ _ (fun j hj => by have := hl (j + 1) (by simp; omega); simpa [Nat.add_assoc, Nat.add_comm 1 j] using this) (by simp only [List.length_cons] at hk; omega) (inv.set hr' hkn) hB' hK)
theorem region_tail0 {id : Nat} {Q : Exit → Act → World → Prop} {a : Act} {w : World} {l : List Oper} (n : Nat) (hm : P.follows .mixedOrders = true) (hB : Region.lexTailB .any l.toArray n = true)
    (hC : C { w with drawn := w.drawn + 1 })
    (h : wpQuiet P l.toArray C (fun a' => ∀ w', C w' → wpList P l.toArray Q (l.drop n) a' w') (l.take n) a) : (Code.region id l.toArray true).wp P Q a w := by
  simp only [Region.lexTailB, Bool.and_eq_true, decide_eq_true_eq] at hB
  obtain ⟨⟨⟨⟨hsel, hn⟩, hs⟩, hc⟩, hlex⟩ := hB
  have hn' : n < l.length := by simpa using hn
  have htl : (l.take n).length = n := by simp; omega
  have hdl : (l.drop n).length = l.toArray.size - n := by simp
  have inv0 : HeadInv .any l.toArray n (Array.replicate l.toArray.size false) :=
    ⟨by simp, fun j oj _ hl => (by rw [getD_replicate_false] at hl; cases hl), fun t _ ht => getD_in (by simpa using ht) (getD_replicate_false _ _)⟩
  have H := anyHead_lex (C := C) (md := .any) (g := l.toArray.size - n) hsel hs hc hn (l.take n) 0 _ a (fun j hj => by
    have hj' : j < n := by rw [htl] at hj; exact hj
    simp [hj']) (by simpa using htl) inv0 (by rw [htl]; exact hlex) h
  refine wp_region_any hm ?_
  have := any_of_head (Q' := Q) (g := l.toArray.size - n) (fun listed a' w' hw' hL => by
    have := wpAny_of_seq (md := .any) (Q' := Q) (l.drop n) n listed a' w' (fun j => by simp [List.getElem?_drop]) (by rw [hdl]; exact hL.1) (hL.2 w' hw')
    rwa [hdl] at this) _ _ _ _ hC H
  rw [htl, show n + (l.toArray.size - n) = l.toArray.size by omega] at this
  exact this
end
structure Since where
  d : Nat
  os : Array Obj
  deriving Inhabited
/-- The world w, d questions having been drawn, with blocks laid behind it. -/
def since (w : World) (p : Since) : World := { w with drawn := p.d, heap := w.heap ++ p.os }
theorem since_below (w : World) (p : Since) : Below w.heap.size w (since w p) :=
  ⟨rfl, rfl, rfl, by simp [since], fun k hk => by simp [since, Array.getElem?_append, hk]⟩
theorem since_of_below {w w' : World} (h : Below w.heap.size w w') : ∃ p, w' = since w p := by
  refine ⟨⟨w'.drawn, w'.heap.extract w.heap.size w'.heap.size⟩, ?_⟩
  obtain ⟨heap', tape', drawn', os', output'⟩ := w'
  have e1 : os' = w.os := h.os
  have e2 : tape' = w.tape := h.tape
  have e3 : output' = w.output := h.output
  have hs : w.heap.size ≤ heap'.size := h.size
  have hb : ∀ k, k < w.heap.size → heap'[k]? = w.heap[k]? := h.block
  subst e1 e2 e3
  have eh : heap' = w.heap ++ heap'.extract w.heap.size heap'.size := by
    apply Array.ext_getElem?
    intro k
    by_cases hk : k < w.heap.size
    · rw [Array.getElem?_append_left hk]; exact hb k hk
    · rw [Array.getElem?_append_right (by omega), Array.getElem?_extract]
      by_cases hk2 : k < heap'.size
      · rw [if_pos (by omega)]; congr 1; omega
      · rw [if_neg (by omega), Array.getElem?_eq_none (by omega)]
  unfold since
  congr 1
theorem cell_since {w : World} {a : Addr} {v : Value} (h : w.cell? a = some v) (p : Since) : (since w p).cell? a = some v := keeps_below (since_below w p) _ _ h
/-- A callee's contract, met in a world of the class. -/
theorem calls_since {P : Program} {f : FuncId} {args : Array Value} {w : World} {p : Since} {v : Value}
    (h : Calls P f args (since w p) fun e w' => e = .returned v ∧ Below (since w p).heap.size (since w p) w') : Calls P f args (since w p) fun e w'' => e = .returned v ∧ ∃ q, w'' = since w q :=
  h.mono fun _ _ ⟨he, hb⟩ => ⟨he, since_of_below (below_then (since_below w p) (since_below w p).size hb)⟩
theorem region_tail {P : Program} {id : Nat} {Q : Exit → Act → World → Prop} {a : Act} {w : World} {l : List Oper} (n : Nat) (hm : P.follows .mixedOrders = true) (hB : Region.lexTailB .any l.toArray n = true)
    (h : wpQuiet P l.toArray (fun w' => ∃ p, w' = since w p) (fun a' => ∀ w', (∃ p, w' = since w p) → wpList P l.toArray Q (l.drop n) a' w') (l.take n) a) : (Code.region id l.toArray true).wp P Q a w :=
  region_tail0 (C := fun w' => ∃ p, w' = since w p) n hm hB ⟨⟨w.drawn + 1, #[]⟩, by simp [since]⟩ h
theorem region_quiet {P : Program} {id : Nat} {Q : Exit → Act → World → Prop} {a : Act} {w : World} {l : List Oper} (hm : P.follows .mixedOrders = true) (hB : Region.lexB .any l.toArray = true)
    (h : wpQuiet P l.toArray (fun w' => ∃ p, w' = since w p) (fun a' => ∀ w', (∃ p, w' = since w p) → Q .normal a' w') l a) : (Code.region id l.toArray true).wp P Q a w :=
  wp_region_quiet (C := fun w' => ∃ p, w' = since w p) hm hB ⟨⟨w.drawn + 1, #[]⟩, by simp [since]⟩ (by simpa using h)

theorem own_form {w : World} {base : Nat} {e : TypeId} {size n : Nat} {v : Value} {xs : List Value} (h : w.ownsRow base e size v n xs) (hn : 0 < n) :
    ∃ g cap, v = .slice (some ⟨g, 0, none⟩) n cap ∧ base ≤ g ∧ g < w.heap.size ∧ n ≤ cap := by
  rcases h.2 with ⟨rfl, rfl⟩ | ⟨g, cap, cur, rfl, hb, hh, h1, h2, _⟩
  · omega
  · exact ⟨g, cap, rfl, hb, (Array.getElem?_eq_some_iff.1 hh).1, h1⟩
section
variable {P : Program} {ops : Array Oper} {rest : List Oper} {o : Oper} {a : Act} {Q : Exit → Act → World → Prop}
theorem append_one {W : World} (base : Nat) (hgd : o.guard = none) (s x : Operand) (t e : TypeId) (z : Value) (size bytes : Nat)
    (ho : o.op = .call { callee := .builtin .append, args := #[s, x], argTypes := #[t, t] })
    (ht : P.underlying t = some (.slice e)) (hinfo : (P.info? e).map (fun i => (i.zero, i.size, i.bytes)) = some (some z, size, bytes)) (hz : z.cells.size = size) (hs0 : 0 < size) (hb0 : 0 < bytes)
    (v : Value) (n : Nat) (xs : List Value) (cs : Array Value) (hs : a.eval s = v) (hx : a.eval x = .slice (some ⟨W.heap.size, 0, none⟩) 1 1) (hcs : cs.size = size) (h1 : ∀ u ∈ cs.toList, u.oneCell' = true)
    (HO : W.ownsRow base e size v n xs) (hbase : base ≤ W.heap.size) (hl : (n + 1) * bytes ≤ 140737488355328)
    (h : ∀ g cap w1, w1.ownsRow base e size (.slice (some ⟨g, 0, none⟩) (n + 1) cap) (n + 1) (xs ++ cs.toList) → W.grownBy w1 v.ownBlock → (v.ownBlock = some g ∨ W.heap.size ≤ g) → base ≤ g → g < w1.heap.size →
      wpList P ops Q rest (a.put o.dst (.slice (some ⟨g, 0, none⟩) (n + 1) cap)) w1) :
    wpList P ops Q (o :: rest) a (W.alloc (.cells cs e)) := by
  obtain ⟨i0, hi, hzz⟩ := Option.map_eq_some_iff.1 hinfo
  simp only [Prod.mk.injEq] at hzz
  obtain ⟨hz0, hz1, hz2⟩ := hzz
  have hlen : n + 1 ≤ 140737488355328 := Nat.le_trans (Nat.le_mul_of_pos_right _ hb0) hl
  refine wpList_append_own_at (W.alloc (.cells cs e)) hgd s x t ho base e i0 z size bytes ht hi hz0 hz1 hz2 hz hs0 v n xs hs (HO.alloc _) ⟨W.heap.size, 0, none⟩ 1 1 cs.toList hx (by simp [hcs])
    (World.news_of_block (cs := cs) (t := e) (fr := (0, 0)) (heap_alloc_new W _)) h1 (by simp only [maxLen]; omega) hl (by simp; omega) ?_
  intro v1 w1 hown hg _ hat
  obtain ⟨g, cap, rfl, hbg, hlt, _⟩ := own_form hown (by omega)
  refine h g cap w1 hown (World.grownBy.trans (World.grownBy_alloc W _ _) hg) ?_ hbg hlt
  rcases hat with hat | hat
  · exact .inl hat.symm
  · right
    have : g = (W.alloc (.cells cs e)).heap.size := by simpa [Value.ownBlock] using hat
    rw [this]; simp
end
theorem info3 : (Tryz.prog.info? 3).map (fun i => (i.zero, i.size, i.bytes)) = some (some (.int .i64 0), 1, 8) := by kernel_rfl
theorem info4 : (Tryz.prog.info? 4).map (fun i => (i.zero, i.size, i.bytes)) = some (some (.bool false), 1, 1) := by kernel_rfl
theorem info70 : (Tryz.prog.info? 88).map (fun i => (i.zero, i.size, i.bytes)) = some (some (.agg #[.int .i64 0, .int .u8 0, .slice none 0 0]), 3, 40) := by kernel_rfl
theorem info80 : (Tryz.prog.info? 71).map (fun i => (i.zero, i.size, i.bytes)) = some (some (.agg #[.bool false, .slice none 0 0]), 2, 32) := by kernel_rfl

/-- Whole numbers as cells. -/
def nums (xs : List Int) : List Value := xs.map fun x => .int .i64 x
theorem nums_length (xs : List Int) : (nums xs).length = xs.length := by simp [nums]
theorem nums_snoc (xs : List Int) (x : Int) : nums xs ++ (#[Value.int .i64 x] : Array Value).toList = nums (xs ++ [x]) := by simp [nums]
theorem ints_of_own {w : World} {base n : Nat} {v : Value} {xs : List Int} (h : w.ownsRow base 3 1 v n (nums xs)) (hx : ∀ x ∈ xs, I64 x) (hm : n ≤ 9223372036854775807) : IntsAt w v xs := by
  have hl : xs.length = n := by have := h.1; rw [nums_length] at this; omega
  rcases h.2 with ⟨rfl, h0⟩ | ⟨g, cap, cur, rfl, hb, hh, h1, h2, h3, h4⟩
  · subst h0
    have : xs = [] := List.eq_nil_of_length_eq_zero hl
    subst this
    exact ⟨none, 0, rfl, Nat.le_refl _, by omega, fun h => by simp at h⟩
  · refine ⟨some ⟨g, 0, none⟩, cap, by rw [hl], by omega, by simpa [maxLen] using h2, fun hp => ⟨g, 0, rfl, fun j x hj => ?_⟩⟩
    have hc := h.cells (g := g) rfl j (.int .i64 x) (by simp [nums, hj])
    have hadd : (⟨g, 0, none⟩ : Addr).add j = ⟨g, j, none⟩ := by unfold Addr.add; split <;> simp_all
    rw [hadd] at hc
    refine ⟨by rw [Nat.zero_add, Nat.mul_one]; exact hc, hx x (List.mem_of_getElem? hj)⟩

/-- The value of a key in a list of entries, and its place. -/
def fnd (k : Int) : List MapEntry → Nat → Option (Nat × Value)
  | [], _ => none
  | e :: es, i => match e.key with
    | .int .i64 a => if k = a then some (i, e.val) else fnd k es (i + 1)
    | _ => none
def AllInt (es : List MapEntry) : Prop := ∀ e ∈ es, ∃ a, e.key = .int .i64 a
theorem findNow_eq (k : Int) : ∀ (es : List MapEntry) (i : Nat), AllInt es → Instr.findNow (.int .i64) (.int .i64 k) es i = some (fnd k es i)
  | [], i, _ => rfl
  | e :: es, i, h => by
    obtain ⟨a, ha⟩ := h e (.head _)
    have ih := findNow_eq k es (i + 1) (fun e he => h e (.tail _ he))
    unfold Instr.findNow fnd
    rw [ha]
    simp only [Instr.sameNow, if_true]
    by_cases hk : k = a
    · subst hk; simp
    · rw [if_neg hk, beq_eq_false_iff_ne.2 hk]; exact ih
theorem fnd_shift (k : Int) : ∀ (es : List MapEntry) (i : Nat), (fnd k es i).map (·.2) = (fnd k es 0).map (·.2) ∧ (∀ j v, fnd k es i = some (j, v) → i ≤ j)
  | [], i => ⟨rfl, fun j v h => by cases h⟩
  | e :: es, i => by
    obtain ⟨h1, h2⟩ := fnd_shift k es (i + 1)
    obtain ⟨h3, _⟩ := fnd_shift k es 1
    unfold fnd
    cases hk : e.key with
    | int q a =>
      cases q <;> try exact ⟨rfl, fun j v h => by cases h⟩
      by_cases hka : k = a
      · simp only [if_pos hka]; exact ⟨rfl, fun j v h => by cases h; omega⟩
      · simp only [if_neg hka]; exact ⟨h1.trans h3.symm, fun j v h => by have := h2 j v h; omega⟩
    | _ => exact ⟨rfl, fun j v h => by cases h⟩
theorem fnd_push (k k' : Int) (v : Value) (c : Nat) : ∀ (es : List MapEntry) (i : Nat), AllInt es → fnd k es i = none →
    (fnd k' (es ++ [⟨.int .i64 k, v, c⟩]) i).map (·.2) = if k' = k then some v else (fnd k' es i).map (·.2)
  | [], i, _, _ => by
    simp only [List.nil_append, fnd]
    by_cases h : k' = k <;> simp [h]
  | e :: es, i, ha, hn => by
    obtain ⟨a, hk⟩ := ha e (.head _)
    have ha' : AllInt es := fun e he => ha e (.tail _ he)
    unfold fnd at hn
    rw [hk] at hn
    simp only at hn
    by_cases h1 : k = a
    · rw [if_pos h1] at hn; cases hn
    · rw [if_neg h1] at hn
      rw [List.cons_append]
      unfold fnd
      rw [hk]
      simp only
      by_cases h2 : k' = a
      · rw [if_pos h2, if_pos h2, if_neg (by omega)]
      · rw [if_neg h2, if_neg h2]; exact fnd_push k k' v c es (i + 1) ha' hn
theorem fnd_modify (k k' : Int) (v : Value) : ∀ (es : List MapEntry) (i j : Nat) (u : Value), AllInt es → fnd k es i = some (i + j, u) →
    (fnd k' (es.modify j fun e => { e with key := .int .i64 k, val := v }) i).map (·.2) = if k' = k then some v else (fnd k' es i).map (·.2)
  | [], i, j, u, _, h => by cases h
  | e :: es, i, j, u, ha, h => by
    obtain ⟨a, hk⟩ := ha e (.head _)
    have ha' : AllInt es := fun e he => ha e (.tail _ he)
    unfold fnd at h
    rw [hk] at h
    simp only at h
    by_cases h1 : k = a
    · rw [if_pos h1] at h
      have hj : j = 0 := by injection h with h; injection h with h _; omega
      subst hj
      simp only [List.modify_zero_cons]
      unfold fnd
      rw [hk]
      simp only
      by_cases h2 : k' = k
      · rw [if_pos h2, if_pos h2]; rfl
      · rw [if_neg h2, if_neg h2, if_neg (by omega)]
    · rw [if_neg h1] at h
      have h3 := (fnd_shift k es (i + 1)).2 _ _ h
      obtain ⟨m, rfl⟩ : ∃ m, j = m + 1 := ⟨j - 1, by omega⟩
      simp only [List.modify_succ_cons]
      unfold fnd
      rw [hk]
      simp only
      by_cases h2 : k' = a
      · rw [if_pos h2, if_pos h2, if_neg (by omega)]
      · rw [if_neg h2, if_neg h2]
        exact fnd_modify k k' v es (i + 1) m u ha' (by rw [h]; congr 2; omega)

/-- A map with whole numbers as keys. -/
def IntMap (w : World) (r : Nat) (f : Int → Option Value) : Prop :=
  ∃ es clock, w.heap[r]? = some (.map es clock) ∧ AllInt es.toList ∧ ∀ k, (fnd k es.toList 0).map (·.2) = f k
theorem IntMap.new (w : World) : IntMap (w.alloc (.map #[] 0)) w.heap.size (fun _ => none) := ⟨#[], 0, heap_alloc_new w _, fun e he => by simp at he, fun k => rfl⟩
theorem IntMap.lt {w : World} {r : Nat} {f : Int → Option Value} (h : IntMap w r f) : r < w.heap.size := by
  obtain ⟨es, c, h1, _⟩ := h
  exact (Array.getElem?_eq_some_iff.1 h1).1
theorem IntMap.heap {w w' : World} {r : Nat} {f : Int → Option Value} (h : IntMap w r f) (e : w'.heap[r]? = w.heap[r]?) : IntMap w' r f := by
  obtain ⟨es, c, h1, h2⟩ := h
  exact ⟨es, c, e.trans h1, h2⟩
theorem IntMap.kept {w w' : World} {r : Nat} {f : Int → Option Value} (h : IntMap w r f) {row : Option Nat} (hg : w.grownBy w' row) (hne : row ≠ some r) : IntMap w' r f :=
  h.heap (hg.block r h.lt (fun e => hne e.symm))
theorem IntMap.below {w w' : World} {r : Nat} {f : Int → Option Value} (h : IntMap w r f) (hb : Below w.heap.size w w') : IntMap w' r f := h.heap (hb.block r h.lt)
section
variable {P : Program}
theorem run_getMap {w : World} {r : Nat} {es : Array MapEntry} {c : Nat} (h : w.heap[r]? = some (.map es c)) : (getObj r).run P w = .ok (.map es c) w := by
  simp [getObj, Sem.run, h]
theorem run_checkKey {w : World} {K : TypeId} (hK : P.underlying K = some (.int .i64)) (e : Bool) (k : Int) : (Instr.checkKey e 10000 K (.int .i64 k)).run P w = .ok () w := by
  unfold Instr.checkKey
  rw [Sem.run_bind, run_underlying hK]
  rfl
theorem run_findKey {w : World} {K : TypeId} (hK : P.underlying K = some (.int .i64)) (k : Int) (es : List MapEntry) (ha : AllInt es) : (Instr.findKey K (.int .i64 k) es).run P w = .ok (fnd k es 0) w := by
  unfold Instr.findKey
  rw [Sem.run_bind, run_underlying hK]
  simp only [Result.andThen_ok, findNow_eq k es 0 ha]
  rfl
theorem run_lookup {w : World} {T K E r : Nat} {f : Int → Option Value} (hT : P.underlying T = some (.map K E)) (hK : P.underlying K = some (.int .i64)) {z : Value} (hz : ∀ w, (zeroValue E).run P w = .ok z w)
    (h : IntMap w r f) (k : Int) : (Instr.lookup T (.map (some r)) (.int .i64 k) false).run P w = .ok ((f k).getD z) w := by
  obtain ⟨es, c, h1, h2, h3⟩ := h
  unfold Instr.lookup
  rw [Sem.run_bind, run_underlying hT]
  simp only [Result.andThen_ok, Sem.run_bind, run_getMap h1, Sem.run_pure, run_checkKey hK, run_findKey hK k es.toList h2]
  rw [← h3 k]
  cases fnd k es.toList 0 with
  | none => simp [Sem.run_bind, hz]
  | some p => simp
theorem run_lookup_ok {w : World} {T K E r : Nat} {f : Int → Option Value} (hT : P.underlying T = some (.map K E)) (hK : P.underlying K = some (.int .i64)) {z : Value} (hz : ∀ w, (zeroValue E).run P w = .ok z w)
    (h : IntMap w r f) (k : Int) : (Instr.lookup T (.map (some r)) (.int .i64 k) true).run P w = .ok (.tuple #[(f k).getD z, .bool (f k).isSome]) w := by
  obtain ⟨es, c, h1, h2, h3⟩ := h
  unfold Instr.lookup
  rw [Sem.run_bind, run_underlying hT]
  simp only [Result.andThen_ok, Sem.run_bind, run_getMap h1, Sem.run_pure, run_checkKey hK, run_findKey hK k es.toList h2]
  rw [← h3 k]
  cases fnd k es.toList 0 with
  | none => simp [Sem.run_bind, hz]
  | some p => simp
theorem run_setMap {w : World} {r : Nat} {es : Array MapEntry} {c : Nat} (h : w.heap[r]? = some (.map es c)) (o : Obj) : (setObj r o).run P w = .ok () (w.putObj r o) := by
  simp [setObj, Sem.run, h, World.putObj]
theorem grown_putObj (w : World) (r : Nat) (o : Obj) : w.grownBy (w.putObj r o) (some r) :=
  ⟨rfl, rfl, rfl, by simp [World.putObj], fun k _ hne => World.putObj_heap_other (fun e => hne (by rw [e]))⟩
theorem run_update {w : World} {T K E r : Nat} {f : Int → Option Value} (hT : P.underlying T = some (.map K E)) (hK : P.underlying K = some (.int .i64)) (h : IntMap w r f) (k : Int) (v : Value) :
    ∃ w', (Instr.mapUpdate T (.map (some r)) (.int .i64 k) v).run P w = .ok () w' ∧ IntMap w' r (fun k' => if k' = k then some v else f k') ∧ w.grownBy w' (some r) := by
  obtain ⟨es, c, h1, h2, h3⟩ := h
  have hlt := (Array.getElem?_eq_some_iff.1 h1).1
  cases hf : fnd k es.toList 0 with
  | none =>
    refine ⟨w.putObj r (.map (es.push ⟨.int .i64 k, v, c⟩) (c + 1)), ?_, ⟨_, _, World.putObj_heap_same hlt, ?_, fun k' => ?_⟩, grown_putObj _ _ _⟩
    · unfold Instr.mapUpdate
      rw [Sem.run_bind, run_underlying hT]
      simp only [Result.andThen_ok, Sem.run_bind, run_getMap h1, run_checkKey hK, run_findKey hK k es.toList h2, hf, run_setMap h1]
    · intro e he
      simp only [Array.toList_push, List.mem_append, List.mem_singleton] at he
      rcases he with he | rfl
      · exact h2 e he
      · exact ⟨k, rfl⟩
    · rw [Array.toList_push, fnd_push k k' v c _ 0 h2 hf, h3]
  | some p =>
    obtain ⟨j, u⟩ := p
    have hst : (Instr.keyThatStays (((es[j]?).map (·.key)).getD (.int .i64 k)) (.int .i64 k)).run P w = .ok (.int .i64 k) w := by
      have : ((es[j]?).map (·.key)).getD (.int .i64 k) = .int .i64 k := by
        have aux : ∀ (l : List MapEntry) (i m : Nat) (u : Value), AllInt l → fnd k l i = some (i + m, u) → (l[m]?).map (·.key) = some (.int .i64 k) := by
          intro l
          induction l with
          | nil => intro i m u _ h; cases h
          | cons e l ih =>
            intro i m u ha h
            obtain ⟨a, hk⟩ := ha e (.head _)
            unfold fnd at h
            rw [hk] at h
            simp only at h
            by_cases h1 : k = a
            · rw [if_pos h1] at h
              have hm : m = 0 := by injection h with h; injection h with h _; omega
              subst hm
              simp [hk, h1]
            · rw [if_neg h1] at h
              have h3 := (fnd_shift k l (i + 1)).2 _ _ h
              obtain ⟨q, rfl⟩ : ∃ q, m = q + 1 := ⟨m - 1, by omega⟩
              simpa using ih (i + 1) q u (fun e he => ha e (.tail _ he)) (by rw [h]; congr 2; omega)
        have := aux es.toList 0 j u h2 (by rw [hf]; simp)
        rw [Array.getElem?_toList] at this
        rw [this]; rfl
      rw [this]
      simp [Instr.keyThatStays, Instr.sameBits]
    refine ⟨w.putObj r (.map (es.modify j fun e => { e with key := .int .i64 k, val := v }) c), ?_, ⟨_, _, World.putObj_heap_same hlt, ?_, fun k' => ?_⟩, grown_putObj _ _ _⟩
    · unfold Instr.mapUpdate
      rw [Sem.run_bind, run_underlying hT]
      simp only [Result.andThen_ok, Sem.run_bind, run_getMap h1, run_checkKey hK, run_findKey hK k es.toList h2, hf, hst, run_setMap h1]
    · intro e he
      rw [Array.toList_modify] at he
      obtain ⟨m, hm⟩ := List.getElem?_of_mem he
      rw [List.getElem?_modify] at hm
      obtain ⟨e0, he0, hee⟩ := Option.map_eq_some_iff.1 hm
      by_cases hjm : j = m
      · rw [if_pos hjm] at hee; exact ⟨k, by rw [← hee]⟩
      · rw [if_neg hjm] at hee; exact ⟨_, by rw [← hee]; exact (h2 e0 (List.mem_of_getElem? he0)).choose_spec⟩
    · rw [Array.toList_modify, fnd_modify k k' v _ 0 j u h2 (by rw [hf]; simp), h3]
end

/-- What a round may turn: the blocks of X, and from n₀ on blocks of cells of type T. -/
def XB (n₀ : Nat) (X : Nat → Prop) (T : TypeId) (A : World) (k : Nat) : Prop := X k ∨ (n₀ ≤ k ∧ ∃ cs fr, A.heap[k]? = some (.cells cs T fr))
/-- All that was there lies as it lay, but for those. -/
structure KeepX (n₀ : Nat) (X : Nat → Prop) (T : TypeId) (A B : World) : Prop where
  os : B.os = A.os
  tape : B.tape = A.tape
  output : B.output = A.output
  size : A.heap.size ≤ B.heap.size
  block : ∀ k, k < A.heap.size → ¬ XB n₀ X T A k → B.heap[k]? = A.heap[k]?
section
variable {n₀ : Nat} {X : Nat → Prop} {T : TypeId} {A B C : World}
theorem KeepX.refl (n₀ : Nat) (X : Nat → Prop) (T : TypeId) (A : World) : KeepX n₀ X T A A := ⟨rfl, rfl, rfl, Nat.le_refl _, fun _ _ _ => rfl⟩
theorem XB.same {k : Nat} (e : B.heap[k]? = A.heap[k]?) (h : XB n₀ X T B k) : XB n₀ X T A k := h.imp id (fun ⟨h1, cs, fr, h2⟩ => ⟨h1, cs, fr, e ▸ h2⟩)
theorem KeepX.trans (h : KeepX n₀ X T A B) (k : KeepX n₀ X T B C) : KeepX n₀ X T A C :=
  ⟨k.os.trans h.os, k.tape.trans h.tape, k.output.trans h.output, Nat.le_trans h.size k.size, fun i hi hx =>
    have e := h.block i hi hx
    (k.block i (Nat.lt_of_lt_of_le hi h.size) (fun h' => hx (h'.same e))).trans e⟩
theorem KeepX.grown (h : KeepX n₀ X T A B) {row : Option Nat} (k : B.grownBy C row) (hr : ∀ r, row = some r → XB n₀ X T B r ∨ A.heap.size ≤ r) : KeepX n₀ X T A C :=
  ⟨k.os.trans h.os, k.tape.trans h.tape, k.output.trans h.output, Nat.le_trans h.size k.size, fun i hi hx => by
    have e := h.block i hi hx
    refine (k.block i (Nat.lt_of_lt_of_le hi h.size) (fun e' => ?_)).trans e
    rcases hr i e'.symm with h' | h'
    · exact hx (h'.same e)
    · omega⟩
theorem KeepX.below (h : KeepX n₀ X T A B) (k : Below B.heap.size B C) : KeepX n₀ X T A C := h.grown (grown_of_below k none) (fun r e => by cases e)
theorem KeepX.weak {Y : Nat → Prop} (h : KeepX n₀ X T A B) (hs : ∀ k, X k → Y k) : KeepX n₀ Y T A B := ⟨h.os, h.tape, h.output, h.size, fun k hk hy => h.block k hk (fun hx => hy (hx.imp (hs k) id))⟩
theorem KeepX.cell (h : KeepX n₀ X T A B) {a : Addr} {v : Value} (hv : A.cell? a = some v) (hx : ¬ XB n₀ X T A a.block) : B.cell? a = some v :=
  (World.cell?_of_block (h.block a.block (World.block_lt_of_cell? A a hv) hx)).trans hv
/-- What lay in w0, where X and n₀ lie behind it. -/
theorem KeepX.toBelow {w0 : World} (h : KeepX n₀ X T A B) (h0 : Below w0.heap.size w0 A) (hn : w0.heap.size ≤ n₀) (hX : ∀ k, X k → w0.heap.size ≤ k) : Below w0.heap.size w0 B :=
  ⟨h.os.trans h0.os, h.tape.trans h0.tape, h.output.trans h0.output, Nat.le_trans h0.size h.size, fun k hk => by
    refine (h.block k (Nat.lt_of_lt_of_le hk h0.size) (fun hx => ?_)).trans (h0.block k hk)
    rcases hx with hx | ⟨hx, _⟩
    · have := hX k hx; omega
    · omega⟩
theorem KeepX.from (h : KeepX n₀ X T A B) (n : Nat) (hX : ∀ k, X k → k < n) : KeepsFrom n A B :=
  ⟨h.size, fun k o hk ho hc => (h.block k (Array.getElem?_eq_some_iff.1 ho).1 (fun hx => by
    rcases hx with hx | ⟨_, cs, fr, hx⟩
    · have := hX k hx; omega
    · rw [hx] at ho; cases ho; cases hc)).trans ho⟩
theorem KeepX.record {l : Nat} {o o2 : Obj} {W W3 : World} (ho : W.heap[l]? = some o) (hc : o.isCells = false) (hc2 : o2.isCells = false) (h : KeepX n₀ X T (W.putObj l o2) W3) (h3 : W3.heap[l]? = some o2) : KeepX n₀ X T W (W3.putObj l o) :=
  ⟨h.os, h.tape, h.output, by have := h.size; simpa using this, fun k hk hx => by
    by_cases hkl : k = l
    · subst hkl
      rw [ho]
      exact World.putObj_heap_same (Array.getElem?_eq_some_iff.1 h3).1
    · have e : (W.putObj l o2).heap[k]? = W.heap[k]? := World.putObj_heap_other hkl
      refine (World.putObj_heap_other hkl).trans ((h.block k (by simpa using hk) (fun h' => hx (h'.same e))).trans e)⟩
end
/-- What an invariant abides: a step that turns the iterator's own block, or a block of the loop's book-keeping, or that lays new blocks. -/
def AbT {β : Type} (B : Nat) (row0 : Option Nat) (I : β → World → Prop) : Prop :=
  ∀ s W W' row, I s W → W.grownBy W' row → (∀ r, row = some r → row0 = some r ∨ (B ≤ r ∧ ∃ o : Obj, W.heap[r]? = some o ∧ o.isCells = false)) → I s W'
theorem AbT.putObj {β : Type} {B : Nat} {row0 : Option Nat} {I : β → World → Prop} (h : AbT B row0 I) {s : β} {W : World} {l : Nat} {o : Obj} (o' : Obj) (hs : I s W) (hB : B ≤ l) (hl : W.heap[l]? = some o) (ho : o.isCells = false) : I s (W.putObj l o') :=
  h s W _ (some l) hs (grownBy_putObj' W l o') (fun r e => by cases e; exact .inr ⟨hB, o, hl, ho⟩)
theorem AbT.alloc {β : Type} {B : Nat} {row0 : Option Nat} {I : β → World → Prop} (h : AbT B row0 I) {s : β} {W : World} (o : Obj) (hs : I s W) : I s (W.alloc o) :=
  h s W _ none hs (World.grownBy_alloc W o none) (fun r e => by cases e)
/-- The iterator hands over xs, one by one, or a part of it; between two rounds it turns no block but row0. -/
def SeqT {α : Type} (P : Program) (g : Nat) (lb : Array Value) (encs : α → Array Value) (Kp : World → World → Prop) (row0 : Option Nat) (xs : List α) (Fin : World → Prop) (w : World) : Prop :=
  ∀ (l : Nat) (J Jx : List α → World → Prop) (W : World), Below w.heap.size w W → AbT W.heap.size row0 J → AbT W.heap.size none Jx →
    (∀ pre x rest W1, xs = pre ++ x :: rest → J pre W1 → YieldAt Fence.wide 0 P l (encs x) W1 fun e W' =>
      (e = .returned (.bool true) ∧ J (pre ++ [x]) W' ∧ Kp W1 W') ∨ (e = .returned (.bool false) ∧ Jx (pre ++ [x]) W' ∧ KeepsFrom W.heap.size W1 W')) →
    J [] W →
    CallsIn Fence.wide 0 P g (#[.func (.yield l) #[] #[]] ++ lb) W fun e W' => (∃ v, e = .returned v) ∧ ((J xs W' ∧ Fin W') ∨ (∃ pre, pre <+: xs ∧ Jx pre W'))

variable {P : Program}
theorem RoundIn.any {m m' : Nat} {l : Nat} {f : FuncId} {tmps : Array Value} {assign body : Code} {w : World} {R : Ending → World → Prop} (h : RoundIn Fence.wide m P l f tmps assign body w R) : RoundIn Fence.wide m' P l f tmps assign body w R :=
  ⟨h.1, fun c cs hr => h.2 c cs (room_wide _)⟩

theorem wp_rangeFunc_R {α : Type} {g : Operand} {ps : Array Tmp} {assign body : Code} {Q : Exit → Act → World → Prop} {a : Act} {w : World}
    {gf : Nat} {lb : Array Value} (hg : a.eval g = .func (.func gf) #[] lb) (eg : ∀ args w, (callFunc gf args).run P w = .ok (.enter gf args) w)
    {encs : α → Array Value} {Kp : World → World → Prop} {row0 : Option Nat} {xs : List α} {Fin : World → Prop} {w0 : World} (hseq : SeqT P gf lb encs Kp row0 xs Fin w0) (hFin : ∀ (W : World) (l : Nat) (o : Obj), w.heap.size ≤ l → Fin W → Fin (W.putObj l o)) (hr0 : ∀ r, row0 = some r → r < w.heap.size)
    (hKt : ∀ {A B C : World}, Kp A B → Kp B C → Kp A C) (hKc : ∀ {W W3 : World} {l : Nat} {o o2 : Obj}, W.heap[l]? = some o → o.isCells = false → o2.isCells = false → Kp (W.putObj l o2) W3 → W3.heap[l]? = some o2 → Kp W (W3.putObj l o)) (hb0 : Below w0.heap.size w0 w) (hps : ∀ x, (encs x).size = ps.size)
    (I : List α → World → Prop) (Ix : Code → List α → World → Prop) (hI : AbT w.heap.size row0 I) (hIx : ∀ c, AbT w.heap.size none (Ix c)) (h0 : I [] w)
    (hround : ∀ (l : Nat) (pre : List α) (x : α) (rest : List α) (W : World) (K : Act → World → Prop), xs = pre ++ x :: rest → w.heap.size ≤ l → I pre W →
      (∀ a' W', KeepsFrom w.heap.size W W' → Kp W W' → I pre W' → (∀ Wb, W'.grownBy Wb (some l) → (∃ o : Obj, W'.heap[l]? = some o ∧ o.isCells = false) → (∃ r, Wb.heap[l]? = some (.loop r)) → I pre Wb →
        body.wpIn (Fence.wide.inRound l) 0 P (ownPostG w.heap.size Kp I Ix (pre ++ [x]) Wb) a' Wb) → K a' W') →
      assign.wpIn (Fence.wide.inRound l) 0 P (Exit.then K (fun _ _ _ => False)) { tmps := (ps.zip (encs x)).foldl (fun t (p, v) => t.setIfInBounds p v) a.tmps, defers := [] } W)
    (hdone : ∀ (D : Nat) (W : World), w.heap.size ≤ D → I xs W → Fin W → W.heap[D]? = some (.deferred (some [])) → Q .normal { a with defers := { target := .collected D, args := #[] } :: a.defers } W)
    (hstop : ∀ (D : Nat) (c : Code) (pre : List α) (W : World), w.heap.size ≤ D → pre <+: xs → Ix c pre W → W.heap[D]? = some (.deferred (some [])) → c.wp P Q { a with defers := { target := .collected D, args := #[] } :: a.defers } W) :
    (Code.rangeFunc g ps assign body).wp P Q a w := by
  refine (wpIn_wide (n := 0)).1 ?_
  refine wpIn_rangeFunc ?_
  intro fn hfn
  obtain ⟨rec, hrec⟩ : ∃ rec : LoopState → Option Code → Loop, rec = fun st pe => { state := st, pending := pe, fn, tmps := a.tmps, params := ps, assign, body, defers := w.heap.size } := ⟨_, rfl⟩
  obtain ⟨W1, hW1⟩ : ∃ W1, (w.alloc (.deferred (some []))).alloc (.loop (rec .ready none)) = W1 := ⟨_, rfl⟩
  have hL1 : W1.heap[w.heap.size + 1]? = some (.loop (rec .ready none)) := by
    rw [← hW1]; have := World.alloc_heap_new (w.alloc (.deferred (some []))) (.loop (rec .ready none)); rwa [World.size_alloc] at this
  have hK1 : W1.heap[w.heap.size]? = some (.deferred (some [])) := by
    rw [← hW1]; exact (Below.heap_alloc _ _ _ (by simp)).trans (World.alloc_heap_new w _)
  have hI1 : I [] W1 := by rw [← hW1]; exact hI.alloc _ (hI.alloc _ h0)
  have hb1 : Below w0.heap.size w0 W1 := by
    rw [← hW1]; exact hb0.trans ((((Below.refl _ w).alloc (Nat.le_refl _) _).alloc (by simp) _).mono hb0.size)
  refine ⟨w.heap.size + 1, [{ target := .collected w.heap.size, args := #[] }], W1, { target := .fn (.func gf) lb, args := #[.func (.yield (w.heap.size + 1)) #[] #[]] }, W1, gf,
    #[.func (.yield (w.heap.size + 1)) #[] #[]] ++ lb, W1, ?_, ?_, ?_, ?_, fun h => by simp [Fence.wide] at h, ?_⟩
  · rw [← hW1, hrec]; exact run_enterLoop_outer _ _ _ _ _
  · simp only [resolve, hg]
    simp [go_sem]
  · intro f' hf'; trivial
  · simp [invoke, go_sem, eg]
  · refine (hseq (w.heap.size + 1)
      (fun pre W => I pre W ∧ W.heap[w.heap.size + 1]? = some (.loop (rec .ready none)) ∧ W.heap[w.heap.size]? = some (.deferred (some [])))
      (fun pre W => ∃ c, Ix c pre W ∧ W.heap[w.heap.size + 1]? = some (.loop (rec .done (some c))) ∧ W.heap[w.heap.size]? = some (.deferred (some [])))
      W1 hb1
      (fun s A B row hs hg' hr => by
        have hlt : w.heap.size + 1 < W1.heap.size := (Array.getElem?_eq_some_iff.1 hL1).1
        have hne : ∀ r, row = some r → r < w.heap.size ∨ W1.heap.size ≤ r := fun r e => (hr r e).imp (fun h => hr0 r h) (fun h => h.1)
        exact ⟨hI s A B row hs.1 hg' (fun r e => (hr r e).imp id (fun h => ⟨by omega, h.2⟩)), (hg'.block _ (Array.getElem?_eq_some_iff.1 hs.2.1).1 (fun e => by have := hne _ e.symm; omega)).trans hs.2.1,
          (hg'.block _ (Array.getElem?_eq_some_iff.1 hs.2.2).1 (fun e => by have := hne _ e.symm; omega)).trans hs.2.2⟩)
      (fun s A B row hs hg' hr => by
        have hlt : w.heap.size + 1 < W1.heap.size := (Array.getElem?_eq_some_iff.1 hL1).1
        obtain ⟨c, hs1, hs2, hs3⟩ := hs
        have hne : ∀ r, row = some r → W1.heap.size ≤ r := fun r e => (hr r e).elim (fun h => by cases h) (fun h => h.1)
        exact ⟨c, hIx c s A B row hs1 hg' (fun r e => (hr r e).elim (fun h => by cases h) (fun h => .inr ⟨by omega, h.2⟩)), (hg'.block _ (Array.getElem?_eq_some_iff.1 hs2).1 (fun e => by have := hne _ e.symm; omega)).trans hs2,
          (hg'.block _ (Array.getElem?_eq_some_iff.1 hs3).1 (fun e => by have := hne _ e.symm; omega)).trans hs3⟩)
      ?_ ⟨hI1, hL1, hK1⟩).mono ?_
    · rintro pre x rest W hxs ⟨hi, hl, hk⟩
      have hlt : w.heap.size + 1 < W.heap.size := (Array.getElem?_eq_some_iff.1 hl).1
      have hy := run_yield (P := P) (args := encs x) hl (by rw [hrec]; exact hps x)
      rw [hrec] at hy
      refine ⟨fn, _, assign, body, hy, roundIn_of_wpIn hfn (hround _ pre x rest W _ hxs (by omega) hi ?_)⟩
      clear hy
      intro a' Wa hkfa hkpa hia hax
      replace hl := hkfa.same _ _ (by omega) hl rfl
      replace hk := hkfa.same _ _ (Nat.le_refl _) hk rfl
      replace hlt : w.heap.size + 1 < Wa.heap.size := (Array.getElem?_eq_some_iff.1 hl).1
      replace hi := hia
      clear hia
      revert hkpa hkfa
      generalize W = Wb
      intro hkfa hkpa
      obtain ⟨W, rfl⟩ : ∃ W, W = Wa := ⟨_, rfl⟩
      refine ⟨_, run_beginRound hl (by rw [hrec]), ?_⟩
      have hl2 : (W.putObj (w.heap.size + 1) (.loop { rec .ready none with state := .busy })).heap[w.heap.size + 1]? = some (.loop { rec .ready none with state := .busy }) := World.putObj_heap_same hlt
      have hk2 : (W.putObj (w.heap.size + 1) (.loop { rec .ready none with state := .busy })).heap[w.heap.size]? = some (.deferred (some [])) := (World.putObj_heap_other (by omega)).trans hk
      refine wpIn_mono (hax _ (grownBy_putObj' W _ _) ⟨_, hl, rfl⟩ ⟨_, hl2⟩ (hI.putObj _ hi (by omega) hl rfl)) ?_
      have fin : ∀ (jump : Option Code) (W3 : World), KeepsFrom w.heap.size (W.putObj (w.heap.size + 1) (.loop { rec .ready none with state := .busy })) W3 →
          (Instr.endRound (w.heap.size + 1) jump).run P W3 = .ok (.bool jump.isNone) (W3.putObj (w.heap.size + 1) (.loop (rec (if jump.isNone then .ready else .done) jump))) ∧
          W3.heap[w.heap.size + 1]? = some (.loop { rec .ready none with state := .busy }) ∧
          (W3.putObj (w.heap.size + 1) (.loop (rec (if jump.isNone then .ready else .done) jump))).heap[w.heap.size + 1]? = some (.loop (rec (if jump.isNone then .ready else .done) jump)) ∧
          (W3.putObj (w.heap.size + 1) (.loop (rec (if jump.isNone then .ready else .done) jump))).heap[w.heap.size]? = some (.deferred (some [])) := fun jump W3 hk3 => by
        have hl3 := hk3.same _ _ (by omega) hl2 rfl
        have := run_endRound (P := P) jump hl3
        rw [hrec] at this ⊢
        exact ⟨this, by rw [hrec] at hl3; exact hl3, World.putObj_heap_same (Array.getElem?_eq_some_iff.1 hl3).1, (World.putObj_heap_other (by omega)).trans (hk3.same _ _ (Nat.le_refl _) hk2 rfl)⟩
      have kf : ∀ (o : Obj) (W3 : World), KeepsFrom w.heap.size (W.putObj (w.heap.size + 1) (.loop { rec .ready none with state := .busy })) W3 → KeepsFrom W1.heap.size Wb (W3.putObj (w.heap.size + 1) o) := fun o W3 hk3 => by
        have hlt1 : w.heap.size + 1 < W1.heap.size := (Array.getElem?_eq_some_iff.1 hL1).1
        refine ⟨by have h1 := hkfa.size; have h2 := hk3.size; simp at h2 ⊢; omega, fun k o' hk' ho' hc' => ?_⟩
        have h1 := hkfa.same k o' (by omega) ho' hc'
        have h2 := hk3.same k o' (by omega) ((World.putObj_heap_other (by omega)).trans h1) hc'
        exact (World.putObj_heap_other (by omega)).trans h2
      rintro e a3 W3 hp
      cases e with
      | normal =>
        obtain ⟨hk3, hkp3, hi3⟩ := hp
        obtain ⟨hr, hl3, hl4, hk4⟩ := fin none W3 hk3
        exact ⟨_, _, hr, .inl ⟨rfl, ⟨hI.putObj _ hi3 (by omega) hl3 rfl, hl4, hk4⟩, hKt hkpa (hKc hl rfl rfl hkp3 hl3)⟩⟩
      | ret =>
        obtain ⟨hk3, hi3⟩ := hp
        obtain ⟨hr, hl3, hl4, hk4⟩ := fin (some .ret) W3 hk3
        exact ⟨_, _, hr, .inr ⟨rfl, ⟨.ret, (hIx _).putObj _ hi3 (by omega) hl3 rfl, hl4, hk4⟩, kf _ _ hk3⟩⟩
      | exit id =>
        obtain ⟨hk3, hi3⟩ := hp
        obtain ⟨hr, hl3, hl4, hk4⟩ := fin (some (.exit id)) W3 hk3
        exact ⟨_, _, hr, .inr ⟨rfl, ⟨.exit id, (hIx _).putObj _ hi3 (by omega) hl3 rfl, hl4, hk4⟩, kf _ _ hk3⟩⟩
      | goto t =>
        obtain ⟨hk3, hi3⟩ := hp
        obtain ⟨hr, hl3, hl4, hk4⟩ := fin (some (.goto t)) W3 hk3
        exact ⟨_, _, hr, .inr ⟨rfl, ⟨.goto t, (hIx _).putObj _ hi3 (by omega) hl3 rfl, hl4, hk4⟩, kf _ _ hk3⟩⟩
      | panic ch => exact hp.elim
      | outgrown => exact hp.elim
    · rintro e W2 ⟨⟨v, rfl⟩, (⟨⟨hi, hl, hk⟩, hfin⟩ | ⟨pre, hSp, c, hi, hl, hk⟩)⟩
      · exact ⟨none, _, by have := run_endLoop (P := P) hl (by rw [hrec]; simp); rw [hrec] at this; exact this, hdone _ _ (Nat.le_refl _) (hI.putObj _ hi (by omega) hl rfl) (hFin _ _ _ (by omega) hfin) ((World.putObj_heap_other (by omega)).trans hk)⟩
      · exact ⟨some c, _, by have := run_endLoop (P := P) hl (by rw [hrec]; simp); rw [hrec] at this; exact this, wpIn_wide.2 (hstop _ c pre _ (Nat.le_refl _) hSp ((hIx c).putObj _ hi (by omega) hl rfl) ((World.putObj_heap_other (by omega)).trans hk))⟩
theorem wp_rangeFunc_T {α : Type} {g : Operand} {ps : Array Tmp} {assign body : Code} {Q : Exit → Act → World → Prop} {a : Act} {w : World}
    {gf : Nat} {lb : Array Value} (hg : a.eval g = .func (.func gf) #[] lb) (eg : ∀ args w, (callFunc gf args).run P w = .ok (.enter gf args) w)
    {encs : α → Array Value} {Kp : World → World → Prop} {row0 : Option Nat} {xs : List α} {Fin : World → Prop} {w0 : World} (hseq : SeqT P gf lb encs Kp row0 xs Fin w0) (hFin : ∀ (W : World) (l : Nat) (o : Obj), w.heap.size ≤ l → Fin W → Fin (W.putObj l o)) (hr0 : ∀ r, row0 = some r → r < w.heap.size)
    (hKt : ∀ {A B C : World}, Kp A B → Kp B C → Kp A C) (hKc : ∀ {W W3 : World} {l : Nat} {o o2 : Obj}, W.heap[l]? = some o → o.isCells = false → o2.isCells = false → Kp (W.putObj l o2) W3 → W3.heap[l]? = some o2 → Kp W (W3.putObj l o)) (hb0 : Below w0.heap.size w0 w) (hps : ∀ x, (encs x).size = ps.size)
    (I : List α → World → Prop) (Ix : Code → List α → World → Prop) (hI : AbT w.heap.size row0 I) (hIx : ∀ c, AbT w.heap.size none (Ix c)) (h0 : I [] w) (Ax : α → Act → World → Prop) (hAx : ∀ x a', AbT w.heap.size none (fun (_ : Unit) W => Ax x a' W))
    (hassign : ∀ (l : Nat) (pre : List α) (x : α) (rest : List α) (W : World) (K : Act → World → Prop), xs = pre ++ x :: rest → I pre W → (∀ a' W', KeepsFrom w.heap.size W W' → Kp W W' → I pre W' → Ax x a' W' → K a' W') →
      assign.wpIn (Fence.wide.inRound l) 0 P (Exit.then K (fun _ _ _ => False)) { tmps := (ps.zip (encs x)).foldl (fun t (p, v) => t.setIfInBounds p v) a.tmps, defers := [] } W)
    (hbody : ∀ (l : Nat) (pre : List α) (x : α) (rest : List α) (a' : Act) (W : World), xs = pre ++ x :: rest → w.heap.size ≤ l → (∃ r, W.heap[l]? = some (.loop r)) → I pre W → Ax x a' W → body.wpIn (Fence.wide.inRound l) 0 P (ownPostG w.heap.size Kp I Ix (pre ++ [x]) W) a' W)
    (hdone : ∀ (D : Nat) (W : World), w.heap.size ≤ D → I xs W → Fin W → W.heap[D]? = some (.deferred (some [])) → Q .normal { a with defers := { target := .collected D, args := #[] } :: a.defers } W)
    (hstop : ∀ (D : Nat) (c : Code) (pre : List α) (W : World), w.heap.size ≤ D → pre <+: xs → Ix c pre W → W.heap[D]? = some (.deferred (some [])) → c.wp P Q { a with defers := { target := .collected D, args := #[] } :: a.defers } W) :
    (Code.rangeFunc g ps assign body).wp P Q a w :=
  wp_rangeFunc_R hg eg hseq hFin hr0 hKt hKc hb0 hps I Ix hI hIx h0 (fun l pre x rest W K hxs hl hi hK => hassign l pre x rest W K hxs hi (fun a' W' h1 h2 h3 hax => hK a' W' h1 h2 h3 (fun Wb hgb ho hr hib =>
    hbody l pre x rest a' Wb hxs hl hr hib (hAx x a' () W' Wb _ hax hgb (fun r e => .inr (by cases e; exact ⟨hl, ho⟩)))))) hdone hstop

section
variable {P : Program} {ops : Array Oper} {md : Region.Mode} {C : World → Prop} {l0 n0 : Nat}
theorem wpIn_of_quiet {o : Oper} {a : Act} {K : Act → Prop} {K' : Act → World → Prop} {Q' : Exit → Act → World → Prop} {w : World} (hd : ∀ c, o.op ≠ .defer c) (hw : C w) (h : ∀ a w', C w' → K a → K' a w') (hh : o.quiet P a C K) :
    o.wpIn (Fence.wide.inRound l0) n0 P a w K' Q' := by
  obtain ⟨v, h1, h2⟩ := hh
  have h3 := h1 w hw
  unfold Oper.quietAt at h3
  unfold Oper.wpIn
  refine ⟨fun _ _ => trivial, ?_⟩
  rw [Oper.semAt_eq _ _ _ hd]
  generalize (execOp a.eval o).run P w = r at *
  cases r with
  | ok n w' =>
    cases n <;> simp only [Oper.quietUpon] at h3 <;> simp only [Oper.uponIn]
    case value u =>
      obtain ⟨e1, e2⟩ := h3
      rw [e1, e2]
      exact h _ _ hw h2
    case skip =>
      obtain ⟨e1, e2⟩ := h3
      rw [e1, ← e2]
      exact h _ _ hw h2
    case enter f args =>
      obtain ⟨e1, hc⟩ := h3
      rw [e1]
      refine ⟨fun h => by simp [Fence.wide, Fence.inRound] at h, CallsIn.inRound l0 (callsIn_wide.2 (hc.mono fun e w'' ⟨he, hw''⟩ => by subst he; exact h _ _ hw'' h2))⟩
  | halt x w' => simp only [Oper.quietUpon] at h3
theorem wpOpIn_of_qOp {i : Nat} {a : Act} {K : Act → Prop} {K' : Act → World → Prop} {Q' : Exit → Act → World → Prop} {w : World} (hd : ∀ (j : Nat) (o : Oper) c, ops[j]? = some o → o.op ≠ .defer c) (hC : C w)
    (h : ∀ a w', C w' → K a → K' a w') (hh : qOp P ops C i K a) : wpOpIn (Fence.wide.inRound l0) n0 P ops Q' i K' a w := by
  unfold qOp at hh
  unfold wpOpIn
  split
  · rename_i ho; simp only [ho] at hh; exact h _ _ hC hh
  · rename_i o ho
    simp only [ho] at hh
    split
    · rename_i hw; simp only [hw, if_true] at hh; exact wpIn_of_quiet (hd i o · ho) hC h hh
    · rename_i hw; simp only [hw] at hh; exact ⟨fun _ _ => trivial, h _ _ hC hh⟩
theorem anyIn_of_head {n g : Nat} {L : Array Bool → Act → Prop} {Q' : Exit → Act → World → Prop} (hd : ∀ (j : Nat) (o : Oper) c, ops[j]? = some o → o.op ≠ .defer c)
    (hL : ∀ listed a w, C w → L listed a → wpAnyIn (Fence.wide.inRound l0) n0 P md ops Q' g listed a w) :
    ∀ (f : Nat) (listed : Array Bool) (a : Act) (w : World), C w → anyHead P md ops C n L f listed a → wpAnyIn (Fence.wide.inRound l0) n0 P md ops Q' (f + g) listed a w
  | 0, listed, a, w, hw, h => by rw [Nat.zero_add]; exact hL _ _ _ hw h
  | f + 1, listed, a, w, hw, h => by
    rw [show f + 1 + g = (f + g) + 1 by omega]
    exact ⟨fun h0 => absurd h0 h.1, fun i hi => wpOpIn_of_qOp hd hw (fun a' w' hw' h' => anyIn_of_head hd hL f _ a' w' hw' h') (h.2 i hi).2⟩
theorem wpAnyIn_of_seq {Q' : Exit → Act → World → Prop} : ∀ (l : List Oper) (k : Nat) (listed : Array Bool) (a : Act) (w : World), (∀ j, l[j]? = ops[k + j]?) →
    Region.seqB md ops l.length k listed = true → wpListIn (Fence.wide.inRound l0) n0 P ops Q' l a w → wpAnyIn (Fence.wide.inRound l0) n0 P md ops Q' l.length listed a w
  | [], _, _, _, _, _, hB, h => ⟨by simpa [Region.seqB] using hB, h⟩
  | o :: l, k, listed, a, w, hl, hB, h => by
    have h0 : ops[k]? = some o := by simpa using (hl 0).symm
    simp only [List.length_cons, Region.seqB, Bool.and_eq_true, decide_eq_true_eq] at hB
    refine ⟨fun h1 => (by rw [hB.1] at h1; cases h1), fun i hi => ?_⟩
    rw [hB.1] at hi
    have hik : i = k := by simpa using hi
    subst hik
    have hw : wpOpIn (Fence.wide.inRound l0) n0 P ops Q' i (wpListIn (Fence.wide.inRound l0) n0 P ops Q' l) a w := by unfold wpOpIn; simp only [h0]; exact h
    exact wpOpIn_mono (fun a' w' h' => wpAnyIn_of_seq l (i + 1) _ a' w' (fun j => by have := hl (j + 1); simpa [Nat.add_assoc, Nat.add_comm 1 j] using this) hB.2 h') hw
def noDefer (l : List Oper) : Bool := l.all fun o => match o.op with | .defer _ => false | _ => true
theorem noDefer_spec {l : List Oper} (h : noDefer l = true) : ∀ (j : Nat) (o : Oper) c, l.toArray[j]? = some o → o.op ≠ .defer c := fun j o c ho e => by
  have hm : o ∈ l := by rw [List.getElem?_toArray] at ho; exact List.mem_of_getElem? ho
  have := List.all_eq_true.1 h o hm
  rw [e] at this
  cases this
theorem region_tail_in {id : Nat} {Q : Exit → Act → World → Prop} {a : Act} {w : World} {l : List Oper} (n : Nat) (hm : P.follows .mixedOrders = true) (hB : Region.lexTailB .any l.toArray n = true) (hnd : noDefer l = true)
    (h : wpQuiet P l.toArray (fun w' => ∃ p, w' = since w p) (fun a' => ∀ w', (∃ p, w' = since w p) → wpListIn (Fence.wide.inRound l0) n0 P l.toArray Q (l.drop n) a' w') (l.take n) a) :
    (Code.region id l.toArray true).wpIn (Fence.wide.inRound l0) n0 P Q a w := by
  simp only [Region.lexTailB, Bool.and_eq_true, decide_eq_true_eq] at hB
  obtain ⟨⟨⟨⟨hsel, hn⟩, hs⟩, hc⟩, hlex⟩ := hB
  have hn' : n < l.length := by simpa using hn
  have htl : (l.take n).length = n := by simp; omega
  have hdl : (l.drop n).length = l.toArray.size - n := by simp
  have inv0 : HeadInv .any l.toArray n (Array.replicate l.toArray.size false) :=
    ⟨by simp, fun j oj _ hl => (by rw [getD_replicate_false] at hl; cases hl), fun t _ ht => getD_in (by simpa using ht) (getD_replicate_false _ _)⟩
  have H := anyHead_lex (C := fun w' => ∃ p, w' = since w p) (md := .any) (g := l.toArray.size - n) hsel hs hc hn (l.take n) 0 _ a (fun j hj => by
    have hj' : j < n := by rw [htl] at hj; exact hj
    simp [hj']) (by simpa using htl) inv0 (by rw [htl]; exact hlex) h
  refine wpIn_region_any hm ?_
  have := anyIn_of_head (l0 := l0) (n0 := n0) (Q' := Q) (g := l.toArray.size - n) (noDefer_spec hnd) (fun listed a' w' hw' hL => by
    have := wpAnyIn_of_seq (l0 := l0) (n0 := n0) (md := .any) (Q' := Q) (l.drop n) n listed a' w' (fun j => by simp [List.getElem?_drop]) (by rw [hdl]; exact hL.1) (hL.2 w' hw')
    rwa [hdl] at this) _ _ _ { w with drawn := w.drawn + 1 } ⟨⟨w.drawn + 1, #[]⟩, by simp [since]⟩ H
  rw [htl, show n + (l.toArray.size - n) = l.toArray.size by omega] at this
  exact this
end
end Go.Proofs.YtnlobmepajakcaaGreatDoor
