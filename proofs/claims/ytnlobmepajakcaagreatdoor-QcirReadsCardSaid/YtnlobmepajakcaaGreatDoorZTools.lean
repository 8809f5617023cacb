/- Laws for regions that draw their order, for append, for maps of ints and for loops over iterators; no condition but what is asked. -/
import Derived.Test.YtnlobmepajakcaaGreatDoorZBase
import Derived.StillTail
import Derived.Maps.AppendAt
import Derived.Deep.AppendLies
import Derived.RangeFuncRecord
import Derived.RangeFuncNested
import Derived.RangeFuncBound
import Derived.RangeFuncCalls
import Derived.RangeFuncLeaves
import Derived.Shelf.RegionOpen
import Derived.OwnWalkIn
import Derived.TacticsInMore
import Derived.LoopNIn
import Derived.LoopIn
set_option linter.unusedVariables false
set_option linter.unusedSimpArgs false
namespace Go.Proofs.YtnlobmepajakcaaGreatDoor
open Go.RowKit Go.Shelf

section
variable {P : Program} {ops : Array Oper} {md : Region.Mode} {C : World → Prop}
/-- Whatever order the first n operations come in, as long as f of them come up, they are quiet; then L holds. -/
def anyHead (P : Program) (md : Region.Mode) (ops : Array Oper) (C : World → Prop) (n : Nat) (L : Array Bool → Act → Prop) : Nat → Array Bool → Act → Prop
  | 0, listed, a => L listed a
  | f + 1, listed, a => Region.ready md ops listed ≠ [] ∧ ∀ i ∈ Region.ready md ops listed, i < n ∧ qOp P ops C i (anyHead P md ops C n L f (listed.setIfInBounds i true)) a
theorem any_of_head {n g : Nat} {L : Array Bool → Act → Prop} {Q' : Exit → Act → World → Prop} (hL : ∀ listed a w, C w → L listed a → wpAny P md ops Q' g listed a w) :
    ∀ (f : Nat) (listed : Array Bool) (a : Act) (w : World), C w → anyHead P md ops C n L f listed a → wpAny P md ops Q' (f + g) listed a w
  | 0, listed, a, w, hw, h => by rw [Nat.zero_add]; exact hL _ _ _ hw h
  | f + 1, listed, a, w, hw, h => by
    rw [show f + 1 + g = (f + g) + 1 by omega]
    exact ⟨fun h0 => absurd h0 h.1, fun i hi => wpOp_of_qOp hw (fun a' w' hw' h' => any_of_head hL f _ a' w' hw' h') (h.2 i hi).2⟩
theorem anyHead_first {n i : Nat} {oi : Oper} {v : Value} {L : Array Bool → Act → Prop} (hi : ops[i]? = some oi) (hsel : ∀ (j : Nat) (o : Oper) cs b, ops[j]? = some o → o.op ≠ .select cs b)
    (hs : Region.sinkB md ops n = true) (hc : Region.chainB md ops n = true) (hn : n < ops.size) (hin : i < n) (hdone : ∀ listed a, L listed a → ∀ j ∈ Region.ready md ops listed, n ≤ j) :
    ∀ (f : Nat) (listed : Array Bool) (a : Act), HeadInv md ops n listed →
      (∀ j oj, ops[j]? = some oj → j ≠ i → listed.getD j true = false → (∀ e ∈ oj.after, Region.binds md e = true → e.on ≠ i) → oi.apart ops oj = true) →
      i ∈ Region.ready md ops listed → YieldsIn P ops C oi v a →
      anyHead P md ops C n L f (listed.setIfInBounds i true) (a.put oi.dst v) → anyHead P md ops C n L (f + 1) listed a := by
  intro f
  induction f with
  | zero =>
    intro listed a inv _ hr hy H
    have hun := (mem_ready.1 hr).1
    refine ⟨fun h => (by rw [h] at hr; cases hr), fun j hj => ?_⟩
    have hjn : j < n := Nat.lt_of_not_le fun h => tail_waits hs hc hn inv _ i rfl hin hun j h hj
    refine ⟨hjn, ?_⟩
    by_cases hji : j = i
    · subst hji; exact hy.qOp hi H
    · have := hdone _ _ H j (ready_mono hj hji)
      omega
  | succ f ih =>
    intro listed a inv hfree hr hy H
    have hun := (mem_ready.1 hr).1
    refine ⟨fun h => (by rw [h] at hr; cases hr), fun j hj => ?_⟩
    have hjn : j < n := Nat.lt_of_not_le fun h => tail_waits hs hc hn inv _ i rfl hin hun j h hj
    refine ⟨hjn, ?_⟩
    by_cases hji : j = i
    · subst hji; exact hy.qOp hi H
    · have h1 := (H.2 j (ready_mono hj hji)).2
      obtain ⟨hjun, oj, hoj, hall⟩ := mem_ready.1 hj
      have hnot : ∀ e ∈ oj.after, Region.binds md e = true → e.on ≠ i := fun e he hb heq => by
        have h1 := hall e he hb
        rw [heq, getD_both hun] at h1
        cases h1
      have h2 := qOp_put hoj (hfree j oj hoj hji hjun hnot) (fun cs b => hsel i oi cs b hi) (fun cs b => hsel j oj cs b hoj) hy h1
      have hfree' : ∀ k ok, ops[k]? = some ok → k ≠ i → (listed.setIfInBounds j true).getD k true = false →
          (∀ e ∈ ok.after, Region.binds md e = true → e.on ≠ i) → oi.apart ops ok = true := fun k ok hk hki hun hno => by
        refine hfree k ok hk hki ?_ hno
        by_cases hjk : j = k
        · subst hjk; exact hjun
        · rw [getD_set_ne true hjk] at hun; exact hun
      refine qOp_mono (fun a' h3 => ih (listed.setIfInBounds j true) a' (inv.set hj hjn) hfree' (ready_mono hr (Ne.symm hji)) h3.1 ?_) h2
      rw [Array.setIfInBounds_comm _ _ hji]
      exact h3.2
theorem anyHead_lex {n g : Nat} {Lq : Act → Prop} (hsel : Region.noSelect ops = true) (hs : Region.sinkB md ops n = true) (hc : Region.chainB md ops n = true) (hn : n < ops.size) :
    ∀ (l : List Oper) (k : Nat) (listed : Array Bool) (a : Act), (∀ j, j < l.length → l[j]? = ops[k + j]?) → k + l.length = n → HeadInv md ops n listed →
    Region.lexHead md ops g l.length k listed = true → wpQuiet P ops C Lq l a →
    anyHead P md ops C n (fun listed' a' => Region.seqB md ops g n listed' = true ∧ Lq a') l.length listed a
  | [], k, listed, a, _, hk, _, hB, h => by
    have : k = n := by simpa using hk
    subst this
    exact ⟨by simpa [Region.lexHead] using hB, h⟩
  | o :: l, k, listed, a, hl, hk, inv, hB, h => by
    have h0 : ops[k]? = some o := by simpa using (hl 0 (by simp)).symm
    simp only [List.length_cons, Region.lexHead, Bool.and_eq_true] at hB
    obtain ⟨⟨hr, hf⟩, hB'⟩ := hB
    have hkn : k < n := by simp only [List.length_cons] at hk; omega
    have hr' : k ∈ Region.ready md ops listed := by simpa using hr
    have hst : qOp P ops C k (wpQuiet P ops C Lq l) a := by unfold qOp; simp only [h0]; exact h
    obtain ⟨v, hy, hK⟩ := yieldsIn_of_qOp h0 hst
    exact anyHead_first h0 (Region.noSelect_spec hsel) hs hc hn hkn (fun listed' a' hL => seqB_ready hL.1) l.length listed a inv (Region.free_spec h0 hf) hr' hy
      (anyHead_lex hsel hs hc hn l (k + 1) _ _ (fun j hj => by have := hl (j + 1) (by simp; omega); simpa [Nat.add_assoc, Nat.add_comm 1 j] using this) (by simp only [List.length_cons] at hk; omega) (inv.set hr' hkn) hB' hK)
theorem region_tail0 {id : Nat} {Q : Exit → Act → World → Prop} {a : Act} {w : World} {l : List Oper} (n : Nat) (hm : P.follows .mixedOrders = true) (hB : Region.lexTailB .any l.toArray n = true)
    (hC : C { w with drawn := w.drawn + 1 })
    (h : wpQuiet P l.toArray C (fun a' => ∀ w', C w' → wpList P l.toArray Q (l.drop n) a' w') (l.take n) a) : (Code.region id l.toArray true).wp P Q a w := by
  simp only [Region.lexTailB, Bool.and_eq_true, decide_eq_true_eq] at hB
  obtain ⟨⟨⟨⟨hsel, hn⟩, hs⟩, hc⟩, hlex⟩ := hB
  have hn' : n < l.length := by simpa using hn
  have htl : (l.take n).length = n := by simp; omega
  have hdl : (l.drop n).length = l.toArray.size - n := by simp
  have inv0 : HeadInv .any l.toArray n (Array.replicate l.toArray.size false) :=
    ⟨by simp, fun j oj _ hl => (by rw [getD_replicate_false] at hl; cases hl), fun t _ ht => getD_in (by simpa using ht) (getD_replicate_false _ _)⟩
  have H := anyHead_lex (C := C) (md := .any) (g := l.toArray.size - n) hsel hs hc hn (l.take n) 0 _ a (fun j hj => by
    have hj' : j < n := by rw [htl] at hj; exact hj
    simp [hj']) (by simpa using htl) inv0 (by rw [htl]; exact hlex) h
  refine wp_region_any hm ?_
  have := any_of_head (Q' := Q) (g := l.toArray.size - n) (fun listed a' w' hw' hL => by
    have := wpAny_of_seq (md := .any) (Q' := Q) (l.drop n) n listed a' w' (fun j => by simp [List.getElem?_drop]) (by rw [hdl]; exact hL.1) (hL.2 w' hw')
    rwa [hdl] at this) _ _ _ _ hC H
  rw [htl, show n + (l.toArray.size - n) = l.toArray.size by omega] at this
  exact this
end
structure Since where
  d : Nat
  os : Array Obj
  deriving Inhabited
/-- The world w, d questions having been drawn, with blocks laid behind it. -/
def since (w : World) (p : Since) : World := { w with drawn := p.d, heap := w.heap ++ p.os }
theorem since_below (w : World) (p : Since) : Below w.heap.size w (since w p) :=
  ⟨rfl, rfl, rfl, by simp [since], fun k hk => by simp [since, Array.getElem?_append, hk]⟩
theorem since_of_below {w w' : World} (h : Below w.heap.size w w') : ∃ p, w' = since w p := by
  refine ⟨⟨w'.drawn, w'.heap.extract w.heap.size w'.heap.size⟩, ?_⟩
  obtain ⟨heap', tape', drawn', os', output'⟩ := w'
  have e1 : os' = w.os := h.os
  have e2 : tape' = w.tape := h.tape
  have e3 : output' = w.output := h.output
  have hs : w.heap.size ≤ heap'.size := h.size
  have hb : ∀ k, k < w.heap.size → heap'[k]? = w.heap[k]? := h.block
  subst e1 e2 e3
  have eh : heap' = w.heap ++ heap'.extract w.heap.size heap'.size := by
    apply Array.ext_getElem?
    intro k
    by_cases hk : k < w.heap.size
    · rw [Array.getElem?_append_left hk]; exact hb k hk
    · rw [Array.getElem?_append_right (by omega), Array.getElem?_extract]
      by_cases hk2 : k < heap'.size
      · rw [if_pos (by omega)]; congr 1; omega
      · rw [if_neg (by omega), Array.getElem?_eq_none (by omega)]
  unfold since
  congr 1
theorem cell_since {w : World} {a : Addr} {v : Value} (h : w.cell? a = some v) (p : Since) : (since w p).cell? a = some v := keeps_below (since_below w p) _ _ h
/-- A callee's contract, met in a world of the class. -/
theorem calls_since {P : Program} {f : FuncId} {args : Array Value} {w : World} {p : Since} {v : Value}
    (h : Calls P f args (since w p) fun e w' => e = .returned v ∧ Below (since w p).heap.size (since w p) w') : Calls P f args (since w p) fun e w'' => e = .returned v ∧ ∃ q, w'' = since w q :=
  h.mono fun _ _ ⟨he, hb⟩ => ⟨he, since_of_below (below_then (since_below w p) (since_below w p).size hb)⟩
theorem region_tail {P : Program} {id : Nat} {Q : Exit → Act → World → Prop} {a : Act} {w : World} {l : List Oper} (n : Nat) (hm : P.follows .mixedOrders = true) (hB : Region.lexTailB .any l.toArray n = true)
    (h : wpQuiet P l.toArray (fun w' => ∃ p, w' = since w p) (fun a' => ∀ w', (∃ p, w' = since w p) → wpList P l.toArray Q (l.drop n) a' w') (l.take n) a) : (Code.region id l.toArray true).wp P Q a w :=
  region_tail0 (C := fun w' => ∃ p, w' = since w p) n hm hB ⟨⟨w.drawn + 1, #[]⟩, by simp [since]⟩ h
theorem region_quiet {P : Program} {id : Nat} {Q : Exit → Act → World → Prop} {a : Act} {w : World} {l : List Oper} (hm : P.follows .mixedOrders = true) (hB : Region.lexB .any l.toArray = true)
    (h : wpQuiet P l.toArray (fun w' => ∃ p, w' = since w p) (fun a' => ∀ w', (∃ p, w' = since w p) → Q .normal a' w') l a) : (Code.region id l.toArray true).wp P Q a w :=
  wp_region_quiet (C := fun w' => ∃ p, w' = since w p) hm hB ⟨⟨w.drawn + 1, #[]⟩, by simp [since]⟩ (by simpa using h)

theorem own_form {w : World} {base : Nat} {e : TypeId} {size n : Nat} {v : Value} {xs : List Value} (h : w.ownsRow base e size v n xs) (hn : 0 < n) :
    ∃ g cap, v = .slice (some ⟨g, 0, none⟩) n cap ∧ base ≤ g ∧ g < w.heap.size ∧ n ≤ cap := by
  rcases h.2 with ⟨rfl, rfl⟩ | ⟨g, cap, cur, rfl, hb, hh, h1, h2, _⟩
  · omega
  · exact ⟨g, cap, rfl, hb, (Array.getElem?_eq_some_iff.1 hh).1, h1⟩
section
variable {P : Program} {ops : Array Oper} {rest : List Oper} {o : Oper} {a : Act} {Q : Exit → Act → World → Prop}
theorem append_one {W : World} (base : Nat) (hgd : o.guard = none) (s x : Operand) (t e : TypeId) (z : Value) (size bytes : Nat)
    (ho : o.op = .call { callee := .builtin .append, args := #[s, x], argTypes := #[t, t] })
    (ht : P.underlying t = some (.slice e)) (hinfo : (P.info? e).map (fun i => (i.zero, i.size, i.bytes)) = some (some z, size, bytes)) (hz : z.cells.size = size) (hs0 : 0 < size) (hb0 : 0 < bytes)
    (v : Value) (n : Nat) (xs : List Value) (cs : Array Value) (hs : a.eval s = v) (hx : a.eval x = .slice (some ⟨W.heap.size, 0, none⟩) 1 1) (hcs : cs.size = size) (h1 : ∀ u ∈ cs.toList, u.oneCell' = true)
    (HO : W.ownsRow base e size v n xs) (hbase : base ≤ W.heap.size) (hl : (n + 1) * bytes ≤ 140737488355328)
    (h : ∀ g cap w1, w1.ownsRow base e size (.slice (some ⟨g, 0, none⟩) (n + 1) cap) (n + 1) (xs ++ cs.toList) → W.grownBy w1 v.ownBlock → (v.ownBlock = some g ∨ W.heap.size ≤ g) → base ≤ g → g < w1.heap.size →
      wpList P ops Q rest (a.put o.dst (.slice (some ⟨g, 0, none⟩) (n + 1) cap)) w1) :
    wpList P ops Q (o :: rest) a (W.alloc (.cells cs e)) := by
  obtain ⟨i0, hi, hzz⟩ := Option.map_eq_some_iff.1 hinfo
  simp only [Prod.mk.injEq] at hzz
  obtain ⟨hz0, hz1, hz2⟩ := hzz
  have hlen : n + 1 ≤ 140737488355328 := Nat.le_trans (Nat.le_mul_of_pos_right _ hb0) hl
  refine wpList_append_own_at (W.alloc (.cells cs e)) hgd s x t ho base e i0 z size bytes ht hi hz0 hz1 hz2 hz hs0 v n xs hs (HO.alloc _) ⟨W.heap.size, 0, none⟩ 1 1 cs.toList hx (by simp [hcs])
    (World.news_of_block (cs := cs) (t := e) (fr := (0, 0)) (heap_alloc_new W _)) h1 (by simp only [maxLen]; omega) hl (by simp; omega) ?_
  intro v1 w1 hown hg _ hat
  obtain ⟨g, cap, rfl, hbg, hlt, _⟩ := own_form hown (by omega)
  refine h g cap w1 hown (World.grownBy.trans (World.grownBy_alloc W _ _) hg) ?_ hbg hlt
  rcases hat with hat | hat
  · exact .inl hat.symm
  · right
    have : g = (W.alloc (.cells cs e)).heap.size := by simpa [Value.ownBlock] using hat
    rw [this]; simp
end
theorem info3 : (Tryz.prog.info? 3).map (fun i => (i.zero, i.size, i.bytes)) = some (some (.int .i64 0), 1, 8) := by kernel_rfl
theorem info4 : (Tryz.prog.info? 4).map (fun i => (i.zero, i.size, i.bytes)) = some (some (.bool false), 1, 1) := by kernel_rfl
theorem info70 : (Tryz.prog.info? 88).map (fun i => (i.zero, i.size, i.bytes)) = some (some (.agg #[.int .i64 0, .int .u8 0, .slice none 0 0]), 3, 40) := by kernel_rfl
theorem info80 : (Tryz.prog.info? 71).map (fun i => (i.zero, i.size, i.bytes)) = some (some (.agg #[.bool false, .slice none 0 0]), 2, 32) := by kernel_rfl

/-- Whole numbers as cells. -/
def nums (xs : List Int) : List Value := xs.map fun x => .int .i64 x
theorem nums_length (xs : List Int) : (nums xs).length = xs.length := by simp [nums]
theorem nums_snoc (xs : List Int) (x : Int) : nums xs ++ (#[Value.int .i64 x] : Array Value).toList = nums (xs ++ [x]) := by simp [nums]
theorem ints_of_own {w : World} {base n : Nat} {v : Value} {xs : List Int} (h : w.ownsRow base 3 1 v n (nums xs)) (hx : ∀ x ∈ xs, I64 x) (hm : n ≤ 9223372036854775807) : IntsAt w v xs := by
  have hl : xs.length = n := by have := h.1; rw [nums_length] at this; omega
  rcases h.2 with ⟨rfl, h0⟩ | ⟨g, cap, cur, rfl, hb, hh, h1, h2, h3, h4⟩
  · subst h0
    have : xs = [] := List.eq_nil_of_length_eq_zero hl
    subst this
    exact ⟨none, 0, rfl, Nat.le_refl _, by omega, fun h => by simp at h⟩
  · refine ⟨some ⟨g, 0, none⟩, cap, by rw [hl], by omega, by simpa [maxLen] using h2, fun hp => ⟨g, 0, rfl, fun j x hj => ?_⟩⟩
    have hc := h.cells (g := g) rfl j (.int .i64 x) (by simp [nums, hj])
    have hadd : (⟨g, 0, none⟩ : Addr).add j = ⟨g, j, none⟩ := by unfold Addr.add; split <;> simp_all
    rw [hadd] at hc
    refine ⟨by rw [Nat.zero_add, Nat.mul_one]; exact hc, hx x (List.mem_of_getElem? hj)⟩

/-- The value of a key in a list of entries, and its place. -/
def fnd (k : Int) : List MapEntry → Nat → Option (Nat × Value)
  | [], _ => none
  | e :: es, i => match e.key with
    | .int .i64 a => if k = a then some (i, e.val) else fnd k es (i + 1)
    | _ => none
def AllInt (es : List MapEntry) : Prop := ∀ e ∈ es, ∃ a, e.key = .int .i64 a
/-- A map with whole numbers as keys. -/
def IntMap (w : World) (r : Nat) (f : Int → Option Value) : Prop :=
  ∃ es clock, w.heap[r]? = some (.map es clock) ∧ AllInt es.toList ∧ ∀ k, (fnd k es.toList 0).map (·.2) = f k
theorem IntMap.new (w : World) : IntMap (w.alloc (.map #[] 0)) w.heap.size (fun _ => none) := ⟨#[], 0, heap_alloc_new w _, fun e he => by simp at he, fun k => rfl⟩
theorem IntMap.lt {w : World} {r : Nat} {f : Int → Option Value} (h : IntMap w r f) : r < w.heap.size := by
  obtain ⟨es, c, h1, _⟩ := h
  exact (Array.getElem?_eq_some_iff.1 h1).1
theorem IntMap.heap {w w' : World} {r : Nat} {f : Int → Option Value} (h : IntMap w r f) (e : w'.heap[r]? = w.heap[r]?) : IntMap w' r f := by
  obtain ⟨es, c, h1, h2⟩ := h
  exact ⟨es, c, e.trans h1, h2⟩
theorem IntMap.kept {w w' : World} {r : Nat} {f : Int → Option Value} (h : IntMap w r f) {row : Option Nat} (hg : w.grownBy w' row) (hne : row ≠ some r) : IntMap w' r f :=
  h.heap (hg.block r h.lt (fun e => hne e.symm))
theorem IntMap.below {w w' : World} {r : Nat} {f : Int → Option Value} (h : IntMap w r f) (hb : Below w.heap.size w w') : IntMap w' r f := h.heap (hb.block r h.lt)
/-- What a round may turn: the blocks of X, and from n₀ on blocks of cells of type T. -/
def XB (n₀ : Nat) (X : Nat → Prop) (T : TypeId) (A : World) (k : Nat) : Prop := X k ∨ (n₀ ≤ k ∧ ∃ cs fr, A.heap[k]? = some (.cells cs T fr))
/-- All that was there lies as it lay, but for those. -/
structure KeepX (n₀ : Nat) (X : Nat → Prop) (T : TypeId) (A B : World) : Prop where
  os : B.os = A.os
  tape : B.tape = A.tape
  output : B.output = A.output
  size : A.heap.size ≤ B.heap.size
  block : ∀ k, k < A.heap.size → ¬ XB n₀ X T A k → B.heap[k]? = A.heap[k]?
section
variable {n₀ : Nat} {X : Nat → Prop} {T : TypeId} {A B C : World}
theorem KeepX.refl (n₀ : Nat) (X : Nat → Prop) (T : TypeId) (A : World) : KeepX n₀ X T A A := ⟨rfl, rfl, rfl, Nat.le_refl _, fun _ _ _ => rfl⟩
theorem XB.same {k : Nat} (e : B.heap[k]? = A.heap[k]?) (h : XB n₀ X T B k) : XB n₀ X T A k := h.imp id (fun ⟨h1, cs, fr, h2⟩ => ⟨h1, cs, fr, e ▸ h2⟩)
theorem KeepX.trans (h : KeepX n₀ X T A B) (k : KeepX n₀ X T B C) : KeepX n₀ X T A C :=
  ⟨k.os.trans h.os, k.tape.trans h.tape, k.output.trans h.output, Nat.le_trans h.size k.size, fun i hi hx =>
    have e := h.block i hi hx
    (k.block i (Nat.lt_of_lt_of_le hi h.size) (fun h' => hx (h'.same e))).trans e⟩
theorem KeepX.grown (h : KeepX n₀ X T A B) {row : Option Nat} (k : B.grownBy C row) (hr : ∀ r, row = some r → XB n₀ X T B r ∨ A.heap.size ≤ r) : KeepX n₀ X T A C :=
  ⟨k.os.trans h.os, k.tape.trans h.tape, k.output.trans h.output, Nat.le_trans h.size k.size, fun i hi hx => by
    have e := h.block i hi hx
    refine (k.block i (Nat.lt_of_lt_of_le hi h.size) (fun e' => ?_)).trans e
    rcases hr i e'.symm with h' | h'
    · exact hx (h'.same e)
    · omega⟩
theorem KeepX.below (h : KeepX n₀ X T A B) (k : Below B.heap.size B C) : KeepX n₀ X T A C := h.grown (grown_of_below k none) (fun r e => by cases e)
theorem KeepX.weak {Y : Nat → Prop} (h : KeepX n₀ X T A B) (hs : ∀ k, X k → Y k) : KeepX n₀ Y T A B := ⟨h.os, h.tape, h.output, h.size, fun k hk hy => h.block k hk (fun hx => hy (hx.imp (hs k) id))⟩
theorem KeepX.cell (h : KeepX n₀ X T A B) {a : Addr} {v : Value} (hv : A.cell? a = some v) (hx : ¬ XB n₀ X T A a.block) : B.cell? a = some v :=
  (World.cell?_of_block (h.block a.block (World.block_lt_of_cell? A a hv) hx)).trans hv
/-- What lay in w0, where X and n₀ lie behind it. -/
theorem KeepX.toBelow {w0 : World} (h : KeepX n₀ X T A B) (h0 : Below w0.heap.size w0 A) (hn : w0.heap.size ≤ n₀) (hX : ∀ k, X k → w0.heap.size ≤ k) : Below w0.heap.size w0 B :=
  ⟨h.os.trans h0.os, h.tape.trans h0.tape, h.output.trans h0.output, Nat.le_trans h0.size h.size, fun k hk => by
    refine (h.block k (Nat.lt_of_lt_of_le hk h0.size) (fun hx => ?_)).trans (h0.block k hk)
    rcases hx with hx | ⟨hx, _⟩
    · have := hX k hx; omega
    · omega⟩
theorem KeepX.from (h : KeepX n₀ X T A B) (n : Nat) (hX : ∀ k, X k → k < n) : KeepsFrom n A B :=
  ⟨h.size, fun k o hk ho hc => (h.block k (Array.getElem?_eq_some_iff.1 ho).1 (fun hx => by
    rcases hx with hx | ⟨_, cs, fr, hx⟩
    · have := hX k hx; omega
    · rw [hx] at ho; cases ho; cases hc)).trans ho⟩
theorem KeepX.record {l : Nat} {o o2 : Obj} {W W3 : World} (ho : W.heap[l]? = some o) (hc : o.isCells = false) (hc2 : o2.isCells = false) (h : KeepX n₀ X T (W.putObj l o2) W3) (h3 : W3.heap[l]? = some o2) : KeepX n₀ X T W (W3.putObj l o) :=
  ⟨h.os, h.tape, h.output, by have := h.size; simpa using this, fun k hk hx => by
    by_cases hkl : k = l
    · subst hkl
      rw [ho]
      exact World.putObj_heap_same (Array.getElem?_eq_some_iff.1 h3).1
    · have e : (W.putObj l o2).heap[k]? = W.heap[k]? := World.putObj_heap_other hkl
      refine (World.putObj_heap_other hkl).trans ((h.block k (by simpa using hk) (fun h' => hx (h'.same e))).trans e)⟩
end
/-- What an invariant abides: a step that turns the iterator's own block, or a block of the loop's book-keeping, or that lays new blocks. -/
def AbT {β : Type} (B : Nat) (row0 : Option Nat) (I : β → World → Prop) : Prop :=
  ∀ s W W' row, I s W → W.grownBy W' row → (∀ r, row = some r → row0 = some r ∨ (B ≤ r ∧ ∃ o : Obj, W.heap[r]? = some o ∧ o.isCells = false)) → I s W'
theorem AbT.putObj {β : Type} {B : Nat} {row0 : Option Nat} {I : β → World → Prop} (h : AbT B row0 I) {s : β} {W : World} {l : Nat} {o : Obj} (o' : Obj) (hs : I s W) (hB : B ≤ l) (hl : W.heap[l]? = some o) (ho : o.isCells = false) : I s (W.putObj l o') :=
  h s W _ (some l) hs (grownBy_putObj' W l o') (fun r e => by cases e; exact .inr ⟨hB, o, hl, ho⟩)
theorem AbT.alloc {β : Type} {B : Nat} {row0 : Option Nat} {I : β → World → Prop} (h : AbT B row0 I) {s : β} {W : World} (o : Obj) (hs : I s W) : I s (W.alloc o) :=
  h s W _ none hs (World.grownBy_alloc W o none) (fun r e => by cases e)
variable {P : Program}
theorem RoundIn.any {m m' : Nat} {l : Nat} {f : FuncId} {tmps : Array Value} {assign body : Code} {w : World} {R : Ending → World → Prop} (h : RoundIn Fence.wide m P l f tmps assign body w R) : RoundIn Fence.wide m' P l f tmps assign body w R :=
  ⟨h.1, fun c cs hr => h.2 c cs (room_wide _)⟩
end Go.Proofs.YtnlobmepajakcaaGreatDoor
