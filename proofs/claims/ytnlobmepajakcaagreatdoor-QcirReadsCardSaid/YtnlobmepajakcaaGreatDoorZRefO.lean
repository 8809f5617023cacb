/- What the document's Order does; the conditions: at most 100,000 gates and 1,000,000 literals. -/
import Derived.Test.YtnlobmepajakcaaGreatDoorZRefM
import Derived.Test.YtnlobmepajakcaaGreatDoorZOrdK
set_option linter.unusedVariables false
set_option linter.unusedSimpArgs false
namespace Go.Proofs.YtnlobmepajakcaaGreatDoor
open Go.RowKit Go.Shelf

/-- A row of n bools in a block of its own. -/
def RowT (w : World) (b n : Nat) (S : Nat → Bool) : Prop :=
  ∃ cs : Array Value, w.heap[b]? = some (.cells cs 4 (0, 0)) ∧ cs.size = n ∧ ∀ i, i < n → cs[i]? = some (.bool (S i))
theorem RowT.cell {w : World} {b n : Nat} {S : Nat → Bool} (h : RowT w b n S) (i : Nat) (hi : i < n) : w.cell? ⟨b, i, none⟩ = some (.bool (S i)) := by
  obtain ⟨cs, h1, _, h3⟩ := h
  rw [cell_of_row w b i cs 4 (0, 0) h1, h3 i hi]
theorem RowT.free {w : World} {b n : Nat} {S : Nat → Bool} (h : RowT w b n S) (i : Nat) : w.frozen? ⟨b, i, none⟩ = false := by
  obtain ⟨cs, h1, _, h3⟩ := h
  exact frozen_of_row w b i cs 4 h1
theorem RowT.lt {w : World} {b n : Nat} {S : Nat → Bool} (h : RowT w b n S) : b < w.heap.size := by
  obtain ⟨cs, h1, _, h3⟩ := h
  exact (Array.getElem?_eq_some_iff.1 h1).1
theorem RowT.heap {w w' : World} {b n : Nat} {S : Nat → Bool} (h : RowT w b n S) (e : w'.heap[b]? = w.heap[b]?) : RowT w' b n S := by
  obtain ⟨cs, h1, h2, h3⟩ := h
  exact ⟨cs, e.trans h1, h2, h3⟩
theorem RowT.below {w w' : World} {b n : Nat} {S : Nat → Bool} (h : RowT w b n S) (hb : Below w.heap.size w w') : RowT w' b n S := h.heap (hb.block b h.lt)
theorem RowT.store {w : World} {b n : Nat} {S : Nat → Bool} (h : RowT w b n S) (i : Nat) (x : Bool) : RowT (w.setCell ⟨b, i, none⟩ (.bool x)) b n (upd S i x) := by
  obtain ⟨cs, h1, h2, h3⟩ := h
  refine ⟨cs.setIfInBounds i (.bool x), heap_setCell_same w b i cs 4 _ h1, by simp [h2], fun j hj => ?_⟩
  rw [Array.getElem?_setIfInBounds]
  unfold upd
  by_cases e : j = i
  · subst e
    simp [h2, hj]
  · rw [if_neg (fun e' => e e'.symm), if_neg e]
    exact h3 j hj
theorem RowT.at_ {w : World} {b n : Nat} {S : Nat → Bool} (h : RowT w b n S) (xs : List Bool) (hl : xs.length = n) (hn : n ≤ 9223372036854775807) (hx : ∀ j x, xs[j]? = some x → S j = x) : BoolsAt w (.slice (some ⟨b, 0, none⟩) n n) xs := by
  subst hl
  refine ⟨_, _, rfl, Nat.le_refl _, hn, fun _ => ⟨b, 0, rfl, fun j x hj => ?_⟩⟩
  show _ = _
  rw [Nat.zero_add, Nat.mul_one, h.cell j (List.getElem?_eq_some_iff.1 hj).1, hx j x hj]
theorem make47r (n : Nat) (h : n ≤ 1099511627776) (W : World) : (Instr.makeSlice 96 (.int .i64 (n : Int)) (.int .i64 (n : Int))).run Tryz.prog W = .ok (.slice (some ⟨W.heap.size, 0, none⟩) n n) (W.alloc (.cells (madeCells #[.bool false] n) 4)) := by
  obtain ⟨i0, hi, hzz⟩ := Option.map_eq_some_iff.1 info4
  simp only [Prod.mk.injEq] at hzz
  obtain ⟨hz0, hz1, hz2⟩ := hzz
  have := run_make (P := Tryz.prog) W 96 4 i0 (.bool false) Tryz.underlying96 hi hz0 .i64 .i64 n n (by omega) (Int.le_refl _) (by rw [hz2]; omega) (by omega)
  rw [hz1, Nat.mul_one, Int.toNat_natCast] at this
  exact this
theorem row_madeT (w : World) (n : Nat) : RowT (w.alloc (.cells (madeCells #[Value.bool false] n) 4)) w.heap.size n noS :=
  ⟨_, heap_alloc_new w _, by simp [madeCells], fun i hi => by unfold madeCells noS; simp [hi, Nat.mod_one]⟩

theorem addIns_set : ∀ (vs : List Int) {S A : Nat → Bool}, addIns S vs = some A → (∀ i, A i = (S i || decide ((i : Int) ∈ vs))) ∧ ∀ v ∈ vs, 1 ≤ v ∧ v ≤ 65536
  | [], S, A, h => by injection h with h; subst h; exact ⟨fun i => by simp, fun v hv => by cases hv⟩
  | x :: xs, S, A, h => by
    rw [addIns_cons] at h
    by_cases hx : addB S x = true
    · rw [if_pos hx] at h
      obtain ⟨h1, h2⟩ := addIns_set xs h
      rw [addB_iff] at hx
      refine ⟨fun i => ?_, fun v hv => ?_⟩
      · rw [h1 i]
        unfold upd
        by_cases e : i = x.toNat
        · have : (i : Int) = x := by omega
          rw [if_pos e]; simp [this]
        · have : (i : Int) ≠ x := by omega
          rw [if_neg e]; simp [this]
      · rcases List.mem_cons.1 hv with rfl | hv
        · exact ⟨hx.1, hx.2.1⟩
        · exact h2 v hv
    · rw [if_neg hx] at h; cases h
theorem addGs_R : ∀ (gs : List PGate) {S A : Nat → Bool}, SetR S → addGs S gs = some A → SetR A
  | [], S, A, hS, h => by injection h with h; subst h; exact hS
  | x :: gs, S, A, hS, h => by
    rw [addGs_cons] at h
    split at h
    · cases h
    · split at h
      · rename_i h2; exact addGs_R gs (hS.upd h2) h
      · cases h
theorem ready_all (S : Nat → Bool) (g : PGate) : readyG S g = g.ins.all fun l => S (absN l) := by
  unfold readyG
  rw [Bool.eq_iff_iff]
  simp
/-- The gates that are not taken. -/
def remF (t : Nat → Bool) : Nat → List PGate → List PGate
  | _, [] => []
  | k, g :: gs => if t k = true then remF t (k + 1) gs else g :: remF t (k + 1) gs
/-- The place of the first gate that is ready and not taken. -/
def pickAt (S t : Nat → Bool) : Nat → List PGate → Option Nat
  | _, [] => none
  | k, g :: gs => if (!t k && readyG S g) = true then some k else pickAt S t (k + 1) gs
theorem remF_low (t : Nat → Bool) (a : Nat) (x : Bool) : ∀ (gs : List PGate) (k : Nat), a < k → remF (upd t a x) k gs = remF t k gs
  | [], k, h => rfl
  | g :: gs, k, h => by
    have e : upd t a x k = t k := by unfold upd; rw [if_neg (by omega)]
    unfold remF
    rw [e, remF_low t a x gs (k + 1) (by omega)]
theorem remF_none (gs : List PGate) (k : Nat) : remF noS k gs = gs := by
  induction gs generalizing k with
  | nil => rfl
  | cons g gs ih => unfold remF; rw [if_neg (by simp [noS]), ih]
theorem pick_at (S t : Nat → Bool) : ∀ (gs : List PGate) (k : Nat), (pickAt S t k gs = none ∧ pickG S (remF t k gs) = none) ∨
    ∃ (a : Nat) (g : PGate), pickAt S t k gs = some a ∧ k ≤ a ∧ gs[a - k]? = some g ∧ t a = false ∧ pickG S (remF t k gs) = some (g, remF (upd t a true) k gs)
  | [], k => .inl ⟨rfl, rfl⟩
  | x :: gs, k => by
    unfold pickAt remF
    by_cases ht : t k = true
    · rw [if_neg (by rw [ht]; simp), if_pos ht]
      rcases pick_at S t gs (k + 1) with ⟨h1, h2⟩ | ⟨a, g, h1, h2, h3, h4, h5⟩
      · exact .inl ⟨h1, h2⟩
      · refine .inr ⟨a, g, h1, by omega, by rw [show a - k = (a - (k + 1)) + 1 by omega]; simpa using h3, h4, ?_⟩
        rw [if_pos (by unfold upd; split; rfl; exact ht)]; exact h5
    · have ht' : t k = false := by simpa using ht
      rw [if_neg ht]
      unfold pickG
      by_cases hr : readyG S x = true
      · rw [if_pos (by rw [ht', hr]; rfl), if_pos hr]
        refine .inr ⟨k, x, rfl, Nat.le_refl _, by simp, ht', ?_⟩
        rw [if_pos (by unfold upd; rw [if_pos rfl]), remF_low t k true gs (k + 1) (by omega)]
      · rw [if_neg (by rw [ht']; simpa using hr), if_neg hr]
        rcases pick_at S t gs (k + 1) with ⟨h1, h2⟩ | ⟨a, g, h1, h2, h3, h4, h5⟩
        · exact .inl ⟨h1, by rw [h2]; rfl⟩
        · refine .inr ⟨a, g, h1, by omega, by rw [show a - k = (a - (k + 1)) + 1 by omega]; simpa using h3, h4, ?_⟩
          have e : upd t a true k = t k := by unfold upd; rw [if_neg (by omega)]
          rw [h5, e, if_neg ht]; rfl
theorem pick_len {S : Nat → Bool} : ∀ {l : List PGate} {g : PGate} {l' : List PGate}, pickG S l = some (g, l') → l.length = l'.length + 1
  | [], g, l', h => by cases h
  | x :: l, g, l', h => by
    unfold pickG at h
    split at h
    · injection h with h; injection h with h1 h2; subst h2; rfl
    · cases hq : pickG S l with
      | none => rw [hq] at h; cases h
      | some r =>
        rw [hq] at h
        injection h with h; injection h with h1 h2
        subst h2
        have := pick_len (l := l) (g := r.1) (l' := r.2) hq
        simp only [List.length_cons]; omega
theorem order_eq {ins : List Int} {gates : List PGate} : orderP ins gates = if looseP ins gates = false then (([], 2) : List PGate × Int) else if 200000 < litSum gates then ([], 3) else
    match ordGo gates.length (setOf ins) [] gates with | none => ([], 50) | some out => (out, 0) := by
  cases h : addIns noS ins with
  | none =>
    have e1 : orderP ins gates = ([], 2) := by unfold orderP; rw [h]
    have e2 : looseP ins gates = false := by unfold looseP; rw [h]
    rw [e1, if_pos e2]
  | some S =>
    have hS : S = setOf ins := by
      funext i
      rw [(addIns_set ins h).1 i]; simp [noS, setOf]
    cases h2 : addGs S gates with
    | none =>
      have e1 : orderP ins gates = ([], 2) := by unfold orderP; rw [h]; simp only; rw [h2]
      have e2 : looseP ins gates = false := by unfold looseP; rw [h]; simp only; rw [h2]
      rw [e1, if_pos e2]
    | some A =>
      cases h3 : strangeG A gates with
      | true =>
        have e1 : orderP ins gates = ([], 2) := by unfold orderP; rw [h]; simp only; rw [h2]; simp only; rw [if_pos h3]
        have e2 : looseP ins gates = false := by unfold looseP; rw [h]; simp only; rw [h2]; simp only; rw [h3]; rfl
        rw [e1, if_pos e2]
      | false =>
        have e2 : looseP ins gates = true := by unfold looseP; rw [h]; simp only; rw [h2]; simp only; rw [h3]; rfl
        rw [if_neg (by rw [e2]; simp), ← hS]
        unfold orderP
        rw [h]
        simp only
        rw [h2]
        simp only
        rw [if_neg (by rw [h3]; simp)]
        rfl
theorem loose_facts {ins : List Int} {gates : List PGate} (h : looseP ins gates = true) : (∀ v ∈ ins, 1 ≤ v ∧ v ≤ 65536) ∧ (∀ g ∈ gates, 1 ≤ g.var ∧ g.var ≤ 65536) ∧ ∀ g ∈ gates, ∀ l ∈ g.ins, 1 ≤ absN l := by
  unfold looseP at h
  cases h1 : addIns noS ins with
  | none => rw [h1] at h; cases h
  | some S =>
    rw [h1] at h
    simp only at h
    cases h2 : addGs S gates with
    | none => rw [h2] at h; cases h
    | some A =>
      rw [h2] at h
      simp only [Bool.not_eq_true'] at h
      have hS : SetR S := fun i hi => by
        rw [(addIns_set ins h1).1 i] at hi
        simp [noS] at hi
        have := (addIns_set ins h1).2 _ hi
        omega
      refine ⟨(addIns_set ins h1).2, addGs_good2 gates h2, fun g hg l hl => ?_⟩
      have hA := addGs_R gates hS h2
      unfold strangeG at h
      rw [List.any_eq_false] at h
      have h4 := h g hg
      rw [List.any_eq_true] at h4
      have h5 : A (absN l) = true := by
        cases hq : A (absN l) with
        | true => rfl
        | false => exact absurd ⟨l, hl, by rw [hq]; rfl⟩ h4
      exact (hA _ h5).1
end Go.Proofs.YtnlobmepajakcaaGreatDoor
