/- Helpers for the last part of circ.simple: data that lies behind a set, rows of gates, an empty list that is reversed; no condition. -/
import Derived.Test.YtnlobmepajakcaaSem
import Derived.OwnWalkIn
set_option linter.unusedVariables false
set_option linter.unusedSimpArgs false
namespace Go.Proofs.Ytnlobmepajakcaa
open Go.RowKit Go.Shelf

theorem cell_none {w : World} {b : Nat} {o : Obj} (h : w.heap[b]? = some o) (ho : o.isCells = false) {a : Addr} {v : Value} (hb : a.block = b) : w.cell? a ≠ some v := by
  intro h2
  rw [World.cell?] at h2
  rw [hb, h] at h2
  cases o <;> simp_all [Obj.isCells]
theorem keeps_deferred {w w' : World} {b : Nat} (hb : b < w.heap.size) (hG : w.grownBy w' (some b)) : Keeps (w.putObj b (.deferred none)) w' := fun a v h => by
  by_cases e : a.block = b
  · exact absurd h (cell_none (World.putObj_heap_same hb) rfl e)
  · have h1 : w.cell? a = some v := (World.cell?_of_block (w' := w) (w := w.putObj b (.deferred none)) (World.putObj_heap_other (o := .deferred none) e).symm).trans h
    exact hG.cell h1 (fun e2 => e (by injection e2 with e2))
theorem keeps_deferred2 {w w' : World} {n₀ b c : Nat} {T : TypeId} (hb : b < w.heap.size) (hc : c < w.heap.size) (hn : w.heap.size ≤ n₀) (hG : KeepX n₀ (fun k => k = b ∨ k = c) T w w') :
    Keeps ((w.putObj b (.deferred none)).putObj c (.deferred none)) w' := fun a v h => by
  by_cases ec : a.block = c
  · exact absurd h (cell_none (World.putObj_heap_same (by simpa using hc)) rfl ec)
  · have h1 : (w.putObj b (.deferred none)).cell? a = some v := (World.cell?_of_block (w' := w.putObj b (.deferred none)) (w := (w.putObj b (.deferred none)).putObj c (.deferred none)) (World.putObj_heap_other (o := .deferred none) ec).symm).trans h
    by_cases eb : a.block = b
    · exact absurd h1 (cell_none (World.putObj_heap_same hb) rfl eb)
    · have h2 : w.cell? a = some v := (World.cell?_of_block (w' := w) (w := w.putObj b (.deferred none)) (World.putObj_heap_other (o := .deferred none) eb).symm).trans h1
      refine hG.cell h2 (fun hx => ?_)
      rcases hx with (hx | hx) | ⟨hx, _⟩
      · exact eb hx
      · exact ec hx
      · have := World.block_lt_of_cell? w _ h2; omega
theorem keeps_def3 {w w' : World} {b c d : Nat} (hb : b < w.heap.size) (hc : c < w.heap.size) (hd : d < w.heap.size)
    (h : ∀ k o, k < w.heap.size → k ≠ b → k ≠ c → k ≠ d → w.heap[k]? = some o → o.isCells = true → w'.heap[k]? = w.heap[k]?) :
    Keeps (((w.putObj b (.deferred none)).putObj c (.deferred none)).putObj d (.deferred none)) w' := fun a v h0 => by
  by_cases ed : a.block = d
  · exact absurd h0 (cell_none (World.putObj_heap_same (by simpa using hd)) rfl ed)
  have h1 : ((w.putObj b (.deferred none)).putObj c (.deferred none)).cell? a = some v := (World.cell?_of_block (w' := (w.putObj b (.deferred none)).putObj c (.deferred none)) (w := ((w.putObj b (.deferred none)).putObj c (.deferred none)).putObj d (.deferred none)) (World.putObj_heap_other (o := .deferred none) ed).symm).trans h0
  by_cases ec : a.block = c
  · exact absurd h1 (cell_none (World.putObj_heap_same (by simpa using hc)) rfl ec)
  have h2 : (w.putObj b (.deferred none)).cell? a = some v := (World.cell?_of_block (w' := w.putObj b (.deferred none)) (w := (w.putObj b (.deferred none)).putObj c (.deferred none)) (World.putObj_heap_other (o := .deferred none) ec).symm).trans h1
  by_cases eb : a.block = b
  · exact absurd h2 (cell_none (World.putObj_heap_same hb) rfl eb)
  have h3 : w.cell? a = some v := (World.cell?_of_block (w' := w) (w := w.putObj b (.deferred none)) (World.putObj_heap_other (o := .deferred none) eb).symm).trans h2
  have hlt := World.block_lt_of_cell? w _ h3
  obtain ⟨o, ho⟩ : ∃ o, w.heap[a.block]? = some o := ⟨_, Array.getElem?_eq_getElem hlt⟩
  cases hc' : o.isCells with
  | false => exact absurd h3 (cell_none ho hc' rfl)
  | true => exact (World.cell?_of_block (h a.block o hlt eb ec ed ho hc')).trans h3
/-- Only some blocks are left. -/
def keepOnly (p : Nat → Bool) (w : World) : World := { w with heap := w.heap.mapIdx fun i o => if p i then o else .deferred none }
theorem keepOnly_size (p : Nat → Bool) (w : World) : (keepOnly p w).heap.size = w.heap.size := by simp [keepOnly]
theorem keepOnly_same {p : Nat → Bool} {w : World} {k : Nat} (h : p k = true) : (keepOnly p w).heap[k]? = w.heap[k]? := by
  unfold keepOnly
  simp only [Array.getElem?_mapIdx, h, if_true]
  cases w.heap[k]? <;> rfl
theorem keeps_only {p : Nat → Bool} {w w' : World} (h : ∀ k, p k = true → k < w.heap.size → w'.heap[k]? = w.heap[k]?) : Keeps (keepOnly p w) w' := fun a v h0 => by
  have hlt := World.block_lt_of_cell? _ _ h0
  rw [keepOnly_size] at hlt
  cases hp : p a.block with
  | false =>
    have : (keepOnly p w).heap[a.block]? = some (.deferred none) := by
      unfold keepOnly
      simp only [Array.getElem?_mapIdx, hp]
      rw [Array.getElem?_eq_getElem hlt]; rfl
    exact absurd h0 (cell_none this rfl rfl)
  | true =>
    have h1 : w.cell? a = some v := (World.cell?_of_block (w' := w) (w := keepOnly p w) (keepOnly_same hp).symm).trans h0
    exact (World.cell?_of_block (h a.block hp hlt)).trans h1
/-- A net that reads as N whatever becomes of the blocks below n. -/
def NetF (n : Nat) (w : World) (v : Value) (N : PNet) : Prop := ∀ w', w.heap.size ≤ w'.heap.size → (∀ k, n ≤ k → k < w.heap.size → w'.heap[k]? = w.heap[k]?) → NetAt w' v N
theorem NetF.at {n : Nat} {w : World} {v : Value} {N : PNet} (h : NetF n w v N) : NetAt w v N := h w (Nat.le_refl _) (fun _ _ _ => rfl)
/-- A slice's parts. -/
def sl3 : Value → Option Addr × Nat × Nat
  | .slice A n c => (A, n, c)
  | _ => (none, 0, 0)
def gtOf (x : PE) : GT := (x.2.1.var, x.2.1.kind, (sl3 x.2.2).1, (sl3 x.2.2).2.1, (sl3 x.2.2).2.2)
theorem gates_of_cells {w : World} {base : Nat} {vo : Value} {gs : List PGate} {ts : List GT} (h1 : ts.length = gs.length) (h2 : w.ownsRow base 70 3 vo gs.length (gcells ts)) (hn : gs.length ≤ 9223372036854775807)
    (h3 : ∀ (i : Nat) (t : GT) (g : PGate), ts[i]? = some t → gs[i]? = some g → t.1 = g.var ∧ t.2.1 = g.kind ∧ (I64 g.var ∧ 0 ≤ g.kind ∧ g.kind ≤ 255) ∧ IntsAt w (.slice t.2.2.1 t.2.2.2.1 t.2.2.2.2) g.ins) : GatesAt w vo gs := by
  obtain ⟨A, c, rfl, hc1, hc2⟩ : ∃ A c, vo = .slice A gs.length c ∧ gs.length ≤ c ∧ c ≤ 9223372036854775807 := by
    rcases h2 with ⟨k1, ⟨rfl, k2⟩ | ⟨g, cap, cur, rfl, k3, k4, k5, k6, k7⟩⟩
    · exact ⟨none, 0, by rw [k2], by omega, by omega⟩
    · exact ⟨_, cap, rfl, k5, by simpa [maxLen] using k6⟩
  refine ⟨A, c, rfl, hc1, hc2, fun hp => ?_⟩
  obtain ⟨g, cap, e, hb, hlt, hcap⟩ := own_form h2 hp
  cases e
  refine ⟨g, 0, rfl, fun j x hj => ?_⟩
  have hjl := (List.getElem?_eq_some_iff.1 hj).1
  obtain ⟨t, ht⟩ : ∃ t, ts[j]? = some t := ⟨_, List.getElem?_eq_getElem (by omega)⟩
  obtain ⟨a1, a2, a3, a4⟩ := h3 j t x ht hj
  have hc : ∀ r, r < 3 → w.cell? ⟨g, j * 3 + r, none⟩ = (enc3 t)[r]? := fun r hr => by
    rw [h2.cellAt (j * 3 + r) (by omega), gcells_get ts j r t ht hr]
  rw [Nat.zero_add]
  exact ⟨by rw [← a1]; exact hc 0 (by omega), by rw [← a2]; exact hc 1 (by omega), a3.1, a3.2.1, a3.2.2, _, hc 2 (by omega), a4⟩
theorem reverse_nil (w : World) : Calls Try.prog 89 #[.slice none 0 0] w fun e w' => e = .returned (.tuple #[]) ∧ w' = w := by
  go_enter Try.func89, Try.ntmps89
  go_wp2
  go_loopg [2, 3] 0 (fun gg s2 s3 wr => s2 = .int .i64 0 ∧ s3 = .int .i64 (-1) ∧ wr = w)
  case atStart => exact ⟨rfl, rfl, rfl⟩
  case round =>
    obtain ⟨rfl, rfl, rfl⟩ := hrel
    go_wp2
    go_end0
    exact ⟨rfl, rfl⟩
theorem reachL_mem : ∀ (xs : List PE) (S : Nat → Bool) (x : PE), x ∈ reachL S xs → x ∈ xs
  | [], S, x, h => by cases h
  | y :: xs, S, x, h => by
    unfold reachL at h
    split at h
    · rcases List.mem_cons.1 h with h | h
      · rw [h]; exact .head _
      · exact .tail _ (reachL_mem xs _ x h)
    · exact .tail _ (reachL_mem xs _ x h)
theorem reachL_len : ∀ (xs : List PE) (S : Nat → Bool), (reachL S xs).length ≤ xs.length
  | [], S => Nat.le_refl _
  | y :: xs, S => by
    unfold reachL
    split
    · simp only [List.length_cons]; have := reachL_len xs (markS S y.2.1.ins); omega
    · simp only [List.length_cons]; have := reachL_len xs S; omega
theorem es_gates {w : World} {A : Option Addr} {gates : List PGate} {es : List PE} (h : GatesL w A gates es) : es.map (·.2.1) = gates := by
  apply List.ext_getElem?
  intro k
  rw [List.getElem?_map]
  cases hx : es[k]? with
  | none =>
    have := List.getElem?_eq_none_iff.1 hx
    rw [List.getElem?_eq_none (by rw [← h.1]; exact this)]; rfl
  | some x => exact (h.2 k x hx).2.1.symm
theorem withoutP_rng {N : PNet} (S : Nat → Bool) (h : ∀ y ∈ varsOf N.pre, 0 ≤ y ∧ y ≤ 65536) : ∀ x ∈ withoutP S N.pre, ∀ y ∈ x.vars, I64 y := fun x hx y hy => by
  have h1 := (block_le hx).2 y hy
  rw [withoutP_vars] at h1
  have := h y (keepV_mem h1)
  unfold I64; omega
theorem ints_none (w : World) : IntsAt w (.slice none 0 0) [] := ⟨none, 0, rfl, Nat.le_refl _, by omega, fun h => absurd h (Nat.lt_irrefl 0)⟩
theorem gate_one {w : World} {g : Nat} {x : Int} (h : w.heap[g]? = some (.cells #[.int .i64 x, .int .u8 1, .slice none 0 0] 70 (0, 0))) (hx : I64 x) : GatesAt w (.slice (some ⟨g, 0, none⟩) 1 1) [⟨x, 1, []⟩] :=
  ⟨_, _, rfl, Nat.le_refl _, by omega, fun _ => ⟨g, 0, rfl, fun j y hy => by
    have hj : j = 0 := by have := (List.getElem?_eq_some_iff.1 hy).1; simpa using this
    subst hj
    injection hy with hy; subst hy
    exact ⟨cell_row h rfl, cell_row h rfl, hx, by simp, by simp, _, cell_row h rfl, ints_none w⟩⟩⟩
theorem gatesP_vars (T : Int) : ∀ (gs : List PGate) (M : Nat → Int) (stay : List PGate), ∀ g ∈ (gs.foldl (gateStep T) (M, stay)).2, g ∈ stay ∨ ∃ g0 ∈ gs, g.var = g0.var
  | [], M, stay, g, h => .inl h
  | x :: gs, M, stay, g, h => by
    rw [List.foldl_cons] at h
    have : ∃ M', gateStep T (M, stay) x = (M', stay) ∨ ∃ y, y.var = x.var ∧ gateStep T (M, stay) x = (M', stay ++ [y]) := by
      unfold gateStep
      simp only
      split
      · exact ⟨_, .inr ⟨⟨x.var, (simplP T x.kind (List.map (meanL M) x.ins)).2.1, (simplP T x.kind (List.map (meanL M) x.ins)).2.2⟩, rfl, rfl⟩⟩
      · exact ⟨_, .inl rfl⟩
    obtain ⟨M', e | ⟨y, hy, e⟩⟩ := this
    · rw [e] at h
      rcases gatesP_vars T gs M' stay g h with h | ⟨g0, h1, h2⟩
      · exact .inl h
      · exact .inr ⟨g0, .tail _ h1, h2⟩
    · rw [e] at h
      rcases gatesP_vars T gs M' (stay ++ [y]) g h with h | ⟨g0, h1, h2⟩
      · rcases List.mem_append.1 h with h | h
        · exact .inl h
        · exact .inr ⟨x, .head _, by rw [List.mem_singleton.1 h]; exact hy⟩
      · exact .inr ⟨g0, .tail _ h1, h2⟩
theorem own_cells {w : World} {base : Nat} {e : TypeId} {size : Nat} {v : Value} {n : Nat} {xs : List Value} (h : w.ownsRow base e size v n xs) {b : Nat} (hb : v.ownBlock = some b) : ∃ cs fr, w.heap[b]? = some (.cells cs e fr) := by
  rcases h.2 with ⟨rfl, _⟩ | ⟨g, cap, cur, rfl, k3, k4, k5⟩
  · cases hb
  · injection hb with hb
    have hb' : g = b := hb
    rw [← hb']; exact ⟨_, _, k4⟩
theorem own_move {w w' : World} {base : Nat} {e : TypeId} {size : Nat} {v : Value} {n : Nat} {xs : List Value} (h : w.ownsRow base e size v n xs)
    (hk : ∀ b cs fr, base ≤ b → w.heap[b]? = some (.cells cs e fr) → w'.heap[b]? = some (.cells cs e fr)) : w'.ownsRow base e size v n xs := by
  rcases h with ⟨k1, h | ⟨g, cap, cur, k2, k3, k4, k5⟩⟩
  · exact ⟨k1, .inl h⟩
  · exact ⟨k1, .inr ⟨g, cap, cur, k2, k3, hk g cur _ k3 k4, k5⟩⟩
theorem reverse_own {base n c : Nat} {A : Option Addr} {ts : List GT} {w : World} (hO : w.ownsRow base 70 3 (.slice A n c) n (gcells ts)) (hn : ts.length = n) :
    Calls Try.prog 89 #[.slice A n c] w fun e w' => e = .returned (.tuple #[]) ∧ w.grownBy w' (Value.slice A n c).ownBlock ∧ w'.ownsRow base 70 3 (.slice A n c) n (gcells ts.reverse) := by
  have hO2 := hO
  rcases hO.2 with ⟨e, h0⟩ | ⟨g, cap, cur, e, _⟩
  · cases e
    have : ts = [] := List.eq_nil_of_length_eq_zero hn
    subst this
    exact (reverse_nil w).mono (fun e w' h => ⟨h.1, by rw [h.2]; exact World.grownBy.refl _ _, by rw [h.2]; exact hO2⟩)
  · cases e
    exact reverse_any base g n c ts w hO2 hn
section
variable {P : Program} {ops : Array Oper} {rest : List Oper} {o : Oper} {a : Act} {Q : Exit → Act → World → Prop} {F : Fence} {m' : Nat}
theorem append_oneIn {W : World} (base : Nat) (hgd : o.guard = none) (s x : Operand) (t e : TypeId) (z : Value) (size bytes : Nat)
    (ho : o.op = .call { callee := .builtin .append, args := #[s, x], argTypes := #[t, t] })
    (ht : P.underlying t = some (.slice e)) (hinfo : (P.info? e).map (fun i => (i.zero, i.size, i.bytes)) = some (some z, size, bytes)) (hz : z.cells.size = size) (hs0 : 0 < size) (hb0 : 0 < bytes)
    (v : Value) (n : Nat) (xs : List Value) (cs : Array Value) (hs : a.eval s = v) (hx : a.eval x = .slice (some ⟨W.heap.size, 0, none⟩) 1 1) (hcs : cs.size = size) (h1 : ∀ u ∈ cs.toList, u.oneCell' = true)
    (HO : W.ownsRow base e size v n xs) (hbase : base ≤ W.heap.size) (hl : (n + 1) * bytes ≤ 140737488355328)
    (h : ∀ g cap w1, w1.ownsRow base e size (.slice (some ⟨g, 0, none⟩) (n + 1) cap) (n + 1) (xs ++ cs.toList) → W.grownBy w1 v.ownBlock → base ≤ g → g < w1.heap.size →
      wpListIn F m' P ops Q rest (a.put o.dst (.slice (some ⟨g, 0, none⟩) (n + 1) cap)) w1) :
    wpListIn F m' P ops Q (o :: rest) a (W.alloc (.cells cs e)) := by
  obtain ⟨i0, hi, hzz⟩ := Option.map_eq_some_iff.1 hinfo
  simp only [Prod.mk.injEq] at hzz
  obtain ⟨hz0, hz1, hz2⟩ := hzz
  have hlen : n + 1 ≤ 140737488355328 := Nat.le_trans (Nat.le_mul_of_pos_right _ hb0) hl
  refine wpListIn_append_own (W.alloc (.cells cs e)) hgd s x t ho base e i0 z size bytes ht hi hz0 hz1 hz2 hz hs0 v n xs hs (HO.alloc _) ⟨W.heap.size, 0, none⟩ 1 1 cs.toList hx (by simp [hcs])
    (World.news_of_block (cs := cs) (t := e) (fr := (0, 0)) (heap_alloc_new W _)) h1 (by simp only [maxLen]; omega) hl (by simp; omega) ?_
  intro v1 w1 hown hg _
  obtain ⟨g, cap, rfl, hbg, hlt, _⟩ := own_form hown (by omega)
  exact h g cap w1 hown (World.grownBy.trans (World.grownBy_alloc W _ _) hg) hbg hlt
end
end Go.Proofs.Ytnlobmepajakcaa
