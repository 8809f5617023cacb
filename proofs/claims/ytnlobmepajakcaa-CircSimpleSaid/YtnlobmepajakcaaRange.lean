/- A loop over an iterator that may turn one block of its own between two rounds (a law of the walk); what such an iterator's contract says; no condition. -/
import Derived.RangeFuncNested
import Derived.RangeFuncBound
import Derived.RangeFuncCalls
import Derived.RangeFuncLeaves
import Derived.Shelf.RegionOpen
import Derived.OwnWalkIn
import Derived.TacticsInMore
import Derived.LoopNIn
import Derived.LoopIn
import Derived.Test.YtnlobmepajakcaaBase
set_option linter.unusedVariables false
set_option linter.unusedSimpArgs false
namespace Go.Proofs.Ytnlobmepajakcaa
open Go.RowKit Go.Shelf

/-- What a round may turn: the blocks of X, and from n₀ on blocks of cells of type T. -/
def XB (n₀ : Nat) (X : Nat → Prop) (T : TypeId) (A : World) (k : Nat) : Prop := X k ∨ (n₀ ≤ k ∧ ∃ cs fr, A.heap[k]? = some (.cells cs T fr))
/-- All that was there lies as it lay, but for those. -/
structure KeepX (n₀ : Nat) (X : Nat → Prop) (T : TypeId) (A B : World) : Prop where
  os : B.os = A.os
  tape : B.tape = A.tape
  output : B.output = A.output
  size : A.heap.size ≤ B.heap.size
  block : ∀ k, k < A.heap.size → ¬ XB n₀ X T A k → B.heap[k]? = A.heap[k]?
section
variable {n₀ : Nat} {X : Nat → Prop} {T : TypeId} {A B C : World}
theorem KeepX.refl (n₀ : Nat) (X : Nat → Prop) (T : TypeId) (A : World) : KeepX n₀ X T A A := ⟨rfl, rfl, rfl, Nat.le_refl _, fun _ _ _ => rfl⟩
theorem XB.same {k : Nat} (e : B.heap[k]? = A.heap[k]?) (h : XB n₀ X T B k) : XB n₀ X T A k := h.imp id (fun ⟨h1, cs, fr, h2⟩ => ⟨h1, cs, fr, e ▸ h2⟩)
theorem KeepX.trans (h : KeepX n₀ X T A B) (k : KeepX n₀ X T B C) : KeepX n₀ X T A C :=
  ⟨k.os.trans h.os, k.tape.trans h.tape, k.output.trans h.output, Nat.le_trans h.size k.size, fun i hi hx =>
    have e := h.block i hi hx
    (k.block i (Nat.lt_of_lt_of_le hi h.size) (fun h' => hx (h'.same e))).trans e⟩
theorem KeepX.grown (h : KeepX n₀ X T A B) {row : Option Nat} (k : B.grownBy C row) (hr : ∀ r, row = some r → XB n₀ X T B r ∨ A.heap.size ≤ r) : KeepX n₀ X T A C :=
  ⟨k.os.trans h.os, k.tape.trans h.tape, k.output.trans h.output, Nat.le_trans h.size k.size, fun i hi hx => by
    have e := h.block i hi hx
    refine (k.block i (Nat.lt_of_lt_of_le hi h.size) (fun e' => ?_)).trans e
    rcases hr i e'.symm with h' | h'
    · exact hx (h'.same e)
    · omega⟩
theorem KeepX.below (h : KeepX n₀ X T A B) (k : Below B.heap.size B C) : KeepX n₀ X T A C := h.grown (grown_of_below k none) (fun r e => by cases e)
theorem KeepX.weak {Y : Nat → Prop} (h : KeepX n₀ X T A B) (hs : ∀ k, X k → Y k) : KeepX n₀ Y T A B := ⟨h.os, h.tape, h.output, h.size, fun k hk hy => h.block k hk (fun hx => hy (hx.imp (hs k) id))⟩
theorem KeepX.cell (h : KeepX n₀ X T A B) {a : Addr} {v : Value} (hv : A.cell? a = some v) (hx : ¬ XB n₀ X T A a.block) : B.cell? a = some v :=
  (World.cell?_of_block (h.block a.block (World.block_lt_of_cell? A a hv) hx)).trans hv
/-- What lay in w0, where X and n₀ lie behind it. -/
theorem KeepX.toBelow {w0 : World} (h : KeepX n₀ X T A B) (h0 : Below w0.heap.size w0 A) (hn : w0.heap.size ≤ n₀) (hX : ∀ k, X k → w0.heap.size ≤ k) : Below w0.heap.size w0 B :=
  ⟨h.os.trans h0.os, h.tape.trans h0.tape, h.output.trans h0.output, Nat.le_trans h0.size h.size, fun k hk => by
    refine (h.block k (Nat.lt_of_lt_of_le hk h0.size) (fun hx => ?_)).trans (h0.block k hk)
    rcases hx with hx | ⟨hx, _⟩
    · have := hX k hx; omega
    · omega⟩
theorem KeepX.from (h : KeepX n₀ X T A B) (n : Nat) (hX : ∀ k, X k → k < n) : KeepsFrom n A B :=
  ⟨h.size, fun k o hk ho hc => (h.block k (Array.getElem?_eq_some_iff.1 ho).1 (fun hx => by
    rcases hx with hx | ⟨_, cs, fr, hx⟩
    · have := hX k hx; omega
    · rw [hx] at ho; cases ho; cases hc)).trans ho⟩
theorem KeepX.record {l : Nat} {o o2 : Obj} {W W3 : World} (ho : W.heap[l]? = some o) (hc : o.isCells = false) (hc2 : o2.isCells = false) (h : KeepX n₀ X T (W.putObj l o2) W3) (h3 : W3.heap[l]? = some o2) : KeepX n₀ X T W (W3.putObj l o) :=
  ⟨h.os, h.tape, h.output, by have := h.size; simpa using this, fun k hk hx => by
    by_cases hkl : k = l
    · subst hkl
      rw [ho]
      exact World.putObj_heap_same (Array.getElem?_eq_some_iff.1 h3).1
    · have e : (W.putObj l o2).heap[k]? = W.heap[k]? := World.putObj_heap_other hkl
      refine (World.putObj_heap_other hkl).trans ((h.block k (by simpa using hk) (fun h' => hx (h'.same e))).trans e)⟩
end

/-- What an invariant abides: a step that turns the iterator's own block, or a block of the loop's book-keeping, or that lays new blocks. -/
def AbT {β : Type} (B : Nat) (row0 : Option Nat) (I : β → World → Prop) : Prop :=
  ∀ s W W' row, I s W → W.grownBy W' row → (∀ r, row = some r → row0 = some r ∨ (B ≤ r ∧ ∃ o : Obj, W.heap[r]? = some o ∧ o.isCells = false)) → I s W'
theorem AbT.putObj {β : Type} {B : Nat} {row0 : Option Nat} {I : β → World → Prop} (h : AbT B row0 I) {s : β} {W : World} {l : Nat} {o : Obj} (o' : Obj) (hs : I s W) (hB : B ≤ l) (hl : W.heap[l]? = some o) (ho : o.isCells = false) : I s (W.putObj l o') :=
  h s W _ (some l) hs (grownBy_putObj' W l o') (fun r e => by cases e; exact .inr ⟨hB, o, hl, ho⟩)
theorem AbT.alloc {β : Type} {B : Nat} {row0 : Option Nat} {I : β → World → Prop} (h : AbT B row0 I) {s : β} {W : World} (o : Obj) (hs : I s W) : I s (W.alloc o) :=
  h s W _ none hs (World.grownBy_alloc W o none) (fun r e => by cases e)
/-- The iterator hands over xs, one by one, or a part of it; between two rounds it turns no block but row0. -/
def SeqT {α : Type} (P : Program) (g : Nat) (lb : Array Value) (encs : α → Array Value) (Kp : World → World → Prop) (row0 : Option Nat) (xs : List α) (Fin : World → Prop) (w : World) : Prop :=
  ∀ (l : Nat) (J Jx : List α → World → Prop) (W : World), Below w.heap.size w W → AbT W.heap.size row0 J → AbT W.heap.size none Jx →
    (∀ pre x rest W1, xs = pre ++ x :: rest → J pre W1 → YieldAt Fence.wide 0 P l (encs x) W1 fun e W' =>
      (e = .returned (.bool true) ∧ J (pre ++ [x]) W' ∧ Kp W1 W') ∨ (e = .returned (.bool false) ∧ Jx (pre ++ [x]) W' ∧ KeepsFrom W.heap.size W1 W')) →
    J [] W →
    CallsIn Fence.wide 0 P g (#[.func (.yield l) #[] #[]] ++ lb) W fun e W' => (∃ v, e = .returned v) ∧ ((J xs W' ∧ Fin W') ∨ (∃ pre, pre <+: xs ∧ Jx pre W'))

variable {P : Program}
theorem RoundIn.any {m m' : Nat} {l : Nat} {f : FuncId} {tmps : Array Value} {assign body : Code} {w : World} {R : Ending → World → Prop} (h : RoundIn Fence.wide m P l f tmps assign body w R) : RoundIn Fence.wide m' P l f tmps assign body w R :=
  ⟨h.1, fun c cs hr => h.2 c cs (room_wide _)⟩

theorem wp_rangeFunc_R {α : Type} {g : Operand} {ps : Array Tmp} {assign body : Code} {Q : Exit → Act → World → Prop} {a : Act} {w : World}
    {gf : Nat} {lb : Array Value} (hg : a.eval g = .func (.func gf) #[] lb) (eg : ∀ args w, (callFunc gf args).run P w = .ok (.enter gf args) w)
    {encs : α → Array Value} {Kp : World → World → Prop} {row0 : Option Nat} {xs : List α} {Fin : World → Prop} {w0 : World} (hseq : SeqT P gf lb encs Kp row0 xs Fin w0) (hFin : ∀ (W : World) (l : Nat) (o : Obj), w.heap.size ≤ l → Fin W → Fin (W.putObj l o)) (hr0 : ∀ r, row0 = some r → r < w.heap.size)
    (hKt : ∀ {A B C : World}, Kp A B → Kp B C → Kp A C) (hKc : ∀ {W W3 : World} {l : Nat} {o o2 : Obj}, W.heap[l]? = some o → o.isCells = false → o2.isCells = false → Kp (W.putObj l o2) W3 → W3.heap[l]? = some o2 → Kp W (W3.putObj l o)) (hb0 : Below w0.heap.size w0 w) (hps : ∀ x, (encs x).size = ps.size)
    (I : List α → World → Prop) (Ix : Code → List α → World → Prop) (hI : AbT w.heap.size row0 I) (hIx : ∀ c, AbT w.heap.size none (Ix c)) (h0 : I [] w)
    (hround : ∀ (l : Nat) (pre : List α) (x : α) (rest : List α) (W : World) (K : Act → World → Prop), xs = pre ++ x :: rest → w.heap.size ≤ l → I pre W →
      (∀ a' W', KeepsFrom w.heap.size W W' → Kp W W' → I pre W' → (∀ Wb, W'.grownBy Wb (some l) → (∃ o : Obj, W'.heap[l]? = some o ∧ o.isCells = false) → (∃ r, Wb.heap[l]? = some (.loop r)) → I pre Wb →
        body.wpIn (Fence.wide.inRound l) 0 P (ownPostG w.heap.size Kp I Ix (pre ++ [x]) Wb) a' Wb) → K a' W') →
      assign.wpIn (Fence.wide.inRound l) 0 P (Exit.then K (fun _ _ _ => False)) { tmps := (ps.zip (encs x)).foldl (fun t (p, v) => t.setIfInBounds p v) a.tmps, defers := [] } W)
    (hdone : ∀ (D : Nat) (W : World), w.heap.size ≤ D → I xs W → Fin W → W.heap[D]? = some (.deferred (some [])) → Q .normal { a with defers := { target := .collected D, args := #[] } :: a.defers } W)
    (hstop : ∀ (D : Nat) (c : Code) (pre : List α) (W : World), w.heap.size ≤ D → pre <+: xs → Ix c pre W → W.heap[D]? = some (.deferred (some [])) → c.wp P Q { a with defers := { target := .collected D, args := #[] } :: a.defers } W) :
    (Code.rangeFunc g ps assign body).wp P Q a w := by
  refine (wpIn_wide (n := 0)).1 ?_
  refine wpIn_rangeFunc ?_
  intro fn hfn
  obtain ⟨rec, hrec⟩ : ∃ rec : LoopState → Option Code → Loop, rec = fun st pe => { state := st, pending := pe, fn, tmps := a.tmps, params := ps, assign, body, defers := w.heap.size } := ⟨_, rfl⟩
  obtain ⟨W1, hW1⟩ : ∃ W1, (w.alloc (.deferred (some []))).alloc (.loop (rec .ready none)) = W1 := ⟨_, rfl⟩
  have hL1 : W1.heap[w.heap.size + 1]? = some (.loop (rec .ready none)) := by
    rw [← hW1]; have := World.alloc_heap_new (w.alloc (.deferred (some []))) (.loop (rec .ready none)); rwa [World.size_alloc] at this
  have hK1 : W1.heap[w.heap.size]? = some (.deferred (some [])) := by
    rw [← hW1]; exact (Below.heap_alloc _ _ _ (by simp)).trans (World.alloc_heap_new w _)
  have hI1 : I [] W1 := by rw [← hW1]; exact hI.alloc _ (hI.alloc _ h0)
  have hb1 : Below w0.heap.size w0 W1 := by
    rw [← hW1]; exact hb0.trans ((((Below.refl _ w).alloc (Nat.le_refl _) _).alloc (by simp) _).mono hb0.size)
  refine ⟨w.heap.size + 1, [{ target := .collected w.heap.size, args := #[] }], W1, { target := .fn (.func gf) lb, args := #[.func (.yield (w.heap.size + 1)) #[] #[]] }, W1, gf,
    #[.func (.yield (w.heap.size + 1)) #[] #[]] ++ lb, W1, ?_, ?_, ?_, ?_, fun h => by simp [Fence.wide] at h, ?_⟩
  · rw [← hW1, hrec]; exact run_enterLoop_outer _ _ _ _ _
  · simp only [resolve, hg]
    simp [go_sem]
  · intro f' hf'; trivial
  · simp [invoke, go_sem, eg]
  · refine (hseq (w.heap.size + 1)
      (fun pre W => I pre W ∧ W.heap[w.heap.size + 1]? = some (.loop (rec .ready none)) ∧ W.heap[w.heap.size]? = some (.deferred (some [])))
      (fun pre W => ∃ c, Ix c pre W ∧ W.heap[w.heap.size + 1]? = some (.loop (rec .done (some c))) ∧ W.heap[w.heap.size]? = some (.deferred (some [])))
      W1 hb1
      (fun s A B row hs hg' hr => by
        have hlt : w.heap.size + 1 < W1.heap.size := (Array.getElem?_eq_some_iff.1 hL1).1
        have hne : ∀ r, row = some r → r < w.heap.size ∨ W1.heap.size ≤ r := fun r e => (hr r e).imp (fun h => hr0 r h) (fun h => h.1)
        exact ⟨hI s A B row hs.1 hg' (fun r e => (hr r e).imp id (fun h => ⟨by omega, h.2⟩)), (hg'.block _ (Array.getElem?_eq_some_iff.1 hs.2.1).1 (fun e => by have := hne _ e.symm; omega)).trans hs.2.1,
          (hg'.block _ (Array.getElem?_eq_some_iff.1 hs.2.2).1 (fun e => by have := hne _ e.symm; omega)).trans hs.2.2⟩)
      (fun s A B row hs hg' hr => by
        have hlt : w.heap.size + 1 < W1.heap.size := (Array.getElem?_eq_some_iff.1 hL1).1
        obtain ⟨c, hs1, hs2, hs3⟩ := hs
        have hne : ∀ r, row = some r → W1.heap.size ≤ r := fun r e => (hr r e).elim (fun h => by cases h) (fun h => h.1)
        exact ⟨c, hIx c s A B row hs1 hg' (fun r e => (hr r e).elim (fun h => by cases h) (fun h => .inr ⟨by omega, h.2⟩)), (hg'.block _ (Array.getElem?_eq_some_iff.1 hs2).1 (fun e => by have := hne _ e.symm; omega)).trans hs2,
          (hg'.block _ (Array.getElem?_eq_some_iff.1 hs3).1 (fun e => by have := hne _ e.symm; omega)).trans hs3⟩)
      ?_ ⟨hI1, hL1, hK1⟩).mono ?_
    · rintro pre x rest W hxs ⟨hi, hl, hk⟩
      have hlt : w.heap.size + 1 < W.heap.size := (Array.getElem?_eq_some_iff.1 hl).1
      have hy := run_yield (P := P) (args := encs x) hl (by rw [hrec]; exact hps x)
      rw [hrec] at hy
      refine ⟨fn, _, assign, body, hy, roundIn_of_wpIn hfn (hround _ pre x rest W _ hxs (by omega) hi ?_)⟩
      clear hy
      intro a' Wa hkfa hkpa hia hax
      replace hl := hkfa.same _ _ (by omega) hl rfl
      replace hk := hkfa.same _ _ (Nat.le_refl _) hk rfl
      replace hlt : w.heap.size + 1 < Wa.heap.size := (Array.getElem?_eq_some_iff.1 hl).1
      replace hi := hia
      clear hia
      revert hkpa hkfa
      generalize W = Wb
      intro hkfa hkpa
      obtain ⟨W, rfl⟩ : ∃ W, W = Wa := ⟨_, rfl⟩
      refine ⟨_, run_beginRound hl (by rw [hrec]), ?_⟩
      have hl2 : (W.putObj (w.heap.size + 1) (.loop { rec .ready none with state := .busy })).heap[w.heap.size + 1]? = some (.loop { rec .ready none with state := .busy }) := World.putObj_heap_same hlt
      have hk2 : (W.putObj (w.heap.size + 1) (.loop { rec .ready none with state := .busy })).heap[w.heap.size]? = some (.deferred (some [])) := (World.putObj_heap_other (by omega)).trans hk
      refine wpIn_mono (hax _ (grownBy_putObj' W _ _) ⟨_, hl, rfl⟩ ⟨_, hl2⟩ (hI.putObj _ hi (by omega) hl rfl)) ?_
      have fin : ∀ (jump : Option Code) (W3 : World), KeepsFrom w.heap.size (W.putObj (w.heap.size + 1) (.loop { rec .ready none with state := .busy })) W3 →
          (Instr.endRound (w.heap.size + 1) jump).run P W3 = .ok (.bool jump.isNone) (W3.putObj (w.heap.size + 1) (.loop (rec (if jump.isNone then .ready else .done) jump))) ∧
          W3.heap[w.heap.size + 1]? = some (.loop { rec .ready none with state := .busy }) ∧
          (W3.putObj (w.heap.size + 1) (.loop (rec (if jump.isNone then .ready else .done) jump))).heap[w.heap.size + 1]? = some (.loop (rec (if jump.isNone then .ready else .done) jump)) ∧
          (W3.putObj (w.heap.size + 1) (.loop (rec (if jump.isNone then .ready else .done) jump))).heap[w.heap.size]? = some (.deferred (some [])) := fun jump W3 hk3 => by
        have hl3 := hk3.same _ _ (by omega) hl2 rfl
        have := run_endRound (P := P) jump hl3
        rw [hrec] at this ⊢
        exact ⟨this, by rw [hrec] at hl3; exact hl3, World.putObj_heap_same (Array.getElem?_eq_some_iff.1 hl3).1, (World.putObj_heap_other (by omega)).trans (hk3.same _ _ (Nat.le_refl _) hk2 rfl)⟩
      have kf : ∀ (o : Obj) (W3 : World), KeepsFrom w.heap.size (W.putObj (w.heap.size + 1) (.loop { rec .ready none with state := .busy })) W3 → KeepsFrom W1.heap.size Wb (W3.putObj (w.heap.size + 1) o) := fun o W3 hk3 => by
        have hlt1 : w.heap.size + 1 < W1.heap.size := (Array.getElem?_eq_some_iff.1 hL1).1
        refine ⟨by have h1 := hkfa.size; have h2 := hk3.size; simp at h2 ⊢; omega, fun k o' hk' ho' hc' => ?_⟩
        have h1 := hkfa.same k o' (by omega) ho' hc'
        have h2 := hk3.same k o' (by omega) ((World.putObj_heap_other (by omega)).trans h1) hc'
        exact (World.putObj_heap_other (by omega)).trans h2
      rintro e a3 W3 hp
      cases e with
      | normal =>
        obtain ⟨hk3, hkp3, hi3⟩ := hp
        obtain ⟨hr, hl3, hl4, hk4⟩ := fin none W3 hk3
        exact ⟨_, _, hr, .inl ⟨rfl, ⟨hI.putObj _ hi3 (by omega) hl3 rfl, hl4, hk4⟩, hKt hkpa (hKc hl rfl rfl hkp3 hl3)⟩⟩
      | ret =>
        obtain ⟨hk3, hi3⟩ := hp
        obtain ⟨hr, hl3, hl4, hk4⟩ := fin (some .ret) W3 hk3
        exact ⟨_, _, hr, .inr ⟨rfl, ⟨.ret, (hIx _).putObj _ hi3 (by omega) hl3 rfl, hl4, hk4⟩, kf _ _ hk3⟩⟩
      | exit id =>
        obtain ⟨hk3, hi3⟩ := hp
        obtain ⟨hr, hl3, hl4, hk4⟩ := fin (some (.exit id)) W3 hk3
        exact ⟨_, _, hr, .inr ⟨rfl, ⟨.exit id, (hIx _).putObj _ hi3 (by omega) hl3 rfl, hl4, hk4⟩, kf _ _ hk3⟩⟩
      | goto t =>
        obtain ⟨hk3, hi3⟩ := hp
        obtain ⟨hr, hl3, hl4, hk4⟩ := fin (some (.goto t)) W3 hk3
        exact ⟨_, _, hr, .inr ⟨rfl, ⟨.goto t, (hIx _).putObj _ hi3 (by omega) hl3 rfl, hl4, hk4⟩, kf _ _ hk3⟩⟩
      | panic ch => exact hp.elim
      | outgrown => exact hp.elim
    · rintro e W2 ⟨⟨v, rfl⟩, (⟨⟨hi, hl, hk⟩, hfin⟩ | ⟨pre, hSp, c, hi, hl, hk⟩)⟩
      · exact ⟨none, _, by have := run_endLoop (P := P) hl (by rw [hrec]; simp); rw [hrec] at this; exact this, hdone _ _ (Nat.le_refl _) (hI.putObj _ hi (by omega) hl rfl) (hFin _ _ _ (by omega) hfin) ((World.putObj_heap_other (by omega)).trans hk)⟩
      · exact ⟨some c, _, by have := run_endLoop (P := P) hl (by rw [hrec]; simp); rw [hrec] at this; exact this, wpIn_wide.2 (hstop _ c pre _ (Nat.le_refl _) hSp ((hIx c).putObj _ hi (by omega) hl rfl) ((World.putObj_heap_other (by omega)).trans hk))⟩
theorem wp_rangeFunc_T {α : Type} {g : Operand} {ps : Array Tmp} {assign body : Code} {Q : Exit → Act → World → Prop} {a : Act} {w : World}
    {gf : Nat} {lb : Array Value} (hg : a.eval g = .func (.func gf) #[] lb) (eg : ∀ args w, (callFunc gf args).run P w = .ok (.enter gf args) w)
    {encs : α → Array Value} {Kp : World → World → Prop} {row0 : Option Nat} {xs : List α} {Fin : World → Prop} {w0 : World} (hseq : SeqT P gf lb encs Kp row0 xs Fin w0) (hFin : ∀ (W : World) (l : Nat) (o : Obj), w.heap.size ≤ l → Fin W → Fin (W.putObj l o)) (hr0 : ∀ r, row0 = some r → r < w.heap.size)
    (hKt : ∀ {A B C : World}, Kp A B → Kp B C → Kp A C) (hKc : ∀ {W W3 : World} {l : Nat} {o o2 : Obj}, W.heap[l]? = some o → o.isCells = false → o2.isCells = false → Kp (W.putObj l o2) W3 → W3.heap[l]? = some o2 → Kp W (W3.putObj l o)) (hb0 : Below w0.heap.size w0 w) (hps : ∀ x, (encs x).size = ps.size)
    (I : List α → World → Prop) (Ix : Code → List α → World → Prop) (hI : AbT w.heap.size row0 I) (hIx : ∀ c, AbT w.heap.size none (Ix c)) (h0 : I [] w) (Ax : α → Act → World → Prop) (hAx : ∀ x a', AbT w.heap.size none (fun (_ : Unit) W => Ax x a' W))
    (hassign : ∀ (l : Nat) (pre : List α) (x : α) (rest : List α) (W : World) (K : Act → World → Prop), xs = pre ++ x :: rest → I pre W → (∀ a' W', KeepsFrom w.heap.size W W' → Kp W W' → I pre W' → Ax x a' W' → K a' W') →
      assign.wpIn (Fence.wide.inRound l) 0 P (Exit.then K (fun _ _ _ => False)) { tmps := (ps.zip (encs x)).foldl (fun t (p, v) => t.setIfInBounds p v) a.tmps, defers := [] } W)
    (hbody : ∀ (l : Nat) (pre : List α) (x : α) (rest : List α) (a' : Act) (W : World), xs = pre ++ x :: rest → w.heap.size ≤ l → (∃ r, W.heap[l]? = some (.loop r)) → I pre W → Ax x a' W → body.wpIn (Fence.wide.inRound l) 0 P (ownPostG w.heap.size Kp I Ix (pre ++ [x]) W) a' W)
    (hdone : ∀ (D : Nat) (W : World), w.heap.size ≤ D → I xs W → Fin W → W.heap[D]? = some (.deferred (some [])) → Q .normal { a with defers := { target := .collected D, args := #[] } :: a.defers } W)
    (hstop : ∀ (D : Nat) (c : Code) (pre : List α) (W : World), w.heap.size ≤ D → pre <+: xs → Ix c pre W → W.heap[D]? = some (.deferred (some [])) → c.wp P Q { a with defers := { target := .collected D, args := #[] } :: a.defers } W) :
    (Code.rangeFunc g ps assign body).wp P Q a w :=
  wp_rangeFunc_R hg eg hseq hFin hr0 hKt hKc hb0 hps I Ix hI hIx h0 (fun l pre x rest W K hxs hl hi hK => hassign l pre x rest W K hxs hi (fun a' W' h1 h2 h3 hax => hK a' W' h1 h2 h3 (fun Wb hgb ho hr hib =>
    hbody l pre x rest a' Wb hxs hl hr hib (hAx x a' () W' Wb _ hax hgb (fun r e => .inr (by cases e; exact ⟨hl, ho⟩)))))) hdone hstop
end Go.Proofs.Ytnlobmepajakcaa
