/- What circ.Compose returns; the conditions: the nets read as data, and have at most 500,000 gates and 2^60 literals each. -/
import Derived.Test.YtnlobmepajakcaaFree
set_option linter.unusedVariables false
set_option linter.unusedSimpArgs false
namespace Go.Proofs.Ytnlobmepajakcaa
open Go.RowKit Go.Shelf
attribute [local go_sem] Oper.semAt_some

theorem u29 : Try.prog.underlying 29 = some (.int .i64) := by kernel_rfl
theorem run_load29 {w : World} {b : Nat} {v : Value} {t : TypeId} (h : w.heap[b]? = some (.cells #[v] t (0, 0))) : (loadVar 29 ⟨b, 0, none⟩).run Try.prog w = .ok v w := by
  have hagg : (isAgg 29).run Try.prog w = .ok false w := by
    unfold isAgg
    rw [Sem.run_bind, run_underlying u29 w]
    rfl
  have hc : w.cell? ⟨b, 0, none⟩ = some v := cell_row h rfl
  simp [loadVar, Sem.run_bind, hagg, go_sem, hc]
theorem results_rows2 {fn : Func} {p q : Tmp} {ty : TypeId} (h : fn.results = #[.cell p ty, .cell q 29]) (tmps : Array Value) (w : World) (g g2 : Nat) (t2 : TypeId) (cs : Array Value) (v : Value)
    (hp : tmps.getD p undef = .pointer (some ⟨g, 0, none⟩)) (hq : tmps.getD q undef = .pointer (some ⟨g2, 0, none⟩)) (hl : (loadVar ty ⟨g, 0, none⟩).run Try.prog w = .ok (.agg cs) w) (hg2 : w.heap[g2]? = some (.cells #[v] t2 (0, 0))) :
    (results fn tmps).run Try.prog w = .ok (.tuple #[.agg cs, v]) w := by
  have hp' : tmps[p]?.getD undef = .pointer (some ⟨g, 0, none⟩) := by simpa using hp
  have hq' : tmps[q]?.getD undef = .pointer (some ⟨g2, 0, none⟩) := by simpa using hq
  simp [results, h, hp', hq', asAddr, hl, run_load29 hg2, Result.andThen, Sem.run_bind]
theorem load25 {w : World} {g : Nat} {v0 v1 v2 : Value} {t : TypeId} (h : w.heap[g]? = some (.cells #[v0, v1, v2] t (0, 0))) : (loadVar 25 ⟨g, 0, none⟩).run Try.prog w = .ok (.agg #[v0, v1, v2]) w :=
  run_loadVar_row w g t 25 _ (0, 0) _ h Try.underlying25 rfl (by kernel_rfl)
/-- A net and an error are put into the results' blocks. -/
theorem put4 {W : World} {b c : Nat} {a0 a1 a2 a4 : Value} {t t2 : TypeId} (h : W.heap[b]? = some (.cells #[a0, a1, a2] t (0, 0))) (h2 : W.heap[c]? = some (.cells #[a4] t2 (0, 0))) (hne : b ≠ c) (v0 v1 v2 v4 : Value) :
    (W.frozen? ⟨b, 0, none⟩ = false ∧ W.cell? ⟨b, 0, none⟩ = some a0 ∧ (W.setCell ⟨b, 0, none⟩ v0).frozen? ⟨b, 1, none⟩ = false ∧ (W.setCell ⟨b, 0, none⟩ v0).cell? ⟨b, 1, none⟩ = some a1 ∧
    ((W.setCell ⟨b, 0, none⟩ v0).setCell ⟨b, 1, none⟩ v1).frozen? ⟨b, 2, none⟩ = false ∧ ((W.setCell ⟨b, 0, none⟩ v0).setCell ⟨b, 1, none⟩ v1).cell? ⟨b, 2, none⟩ = some a2 ∧
    (((W.setCell ⟨b, 0, none⟩ v0).setCell ⟨b, 1, none⟩ v1).setCell ⟨b, 2, none⟩ v2).frozen? ⟨c, 0, none⟩ = false ∧ (((W.setCell ⟨b, 0, none⟩ v0).setCell ⟨b, 1, none⟩ v1).setCell ⟨b, 2, none⟩ v2).cell? ⟨c, 0, none⟩ = some a4) ∧
    ((((W.setCell ⟨b, 0, none⟩ v0).setCell ⟨b, 1, none⟩ v1).setCell ⟨b, 2, none⟩ v2).setCell ⟨c, 0, none⟩ v4).heap[b]? = some (.cells #[v0, v1, v2] t (0, 0)) ∧
    ((((W.setCell ⟨b, 0, none⟩ v0).setCell ⟨b, 1, none⟩ v1).setCell ⟨b, 2, none⟩ v2).setCell ⟨c, 0, none⟩ v4).heap[c]? = some (.cells #[v4] t2 (0, 0)) ∧
    KeepX W.heap.size (fun k => k = b ∨ k = c) 0 W ((((W.setCell ⟨b, 0, none⟩ v0).setCell ⟨b, 1, none⟩ v1).setCell ⟨b, 2, none⟩ v2).setCell ⟨c, 0, none⟩ v4) := by
  obtain ⟨f0, c0, f1, c1, f2, c2, r, g⟩ := put25 h v0 v1 v2
  have r2 := row_grown h2 g (by intro e; injection e with e; exact hne e)
  have gs := grown_setCell (((W.setCell ⟨b, 0, none⟩ v0).setCell ⟨b, 1, none⟩ v1).setCell ⟨b, 2, none⟩ v2) ⟨c, 0, none⟩ v4
  refine ⟨⟨f0, c0, f1, c1, f2, c2, frozen_of_row _ c 0 _ _ r2, cell_row r2 rfl⟩, row_grown r gs (by intro e; injection e with e; exact hne e.symm), row_set r2 v4, ?_⟩
  exact ((KeepX.refl _ _ _ _).grown g (fun r e => .inl (.inl (.inl (by injection e with e; exact e.symm))))).grown gs (fun r e => .inl (.inl (.inr (by injection e with e; exact e.symm))))
theorem comp_err {w W W4 : World} {b c : Nat} {k : Int} {r : PNet × Int} (hB : Below w.heap.size w W) (hb : w.heap.size ≤ b) (hc : w.heap.size ≤ c) (hK : KeepX W.heap.size (fun k => k = b ∨ k = c) 0 W W4) (hr : r = (noNet, k)) :
    CofPost w r (.returned (.tuple #[.agg #[.slice none 0 0, .slice none 0 0, .int .i64 0], .int .i64 k])) W4 := by
  rw [hr]
  exact ⟨hK.toBelow hB hB.size (fun k h => by rcases h with h | h <;> omega), _, rfl, net_noF _ _⟩

/-- The boxes of Compose's parameters and results, as they lie before the end. -/
def Boxes (b : Nat) (n0 n1 m0 m1 : Value) (no v mo : Int) (W : World) : Prop :=
  W.heap[b]? = some (.cells #[n0, n1, .int .i64 no] 25 (0, 0)) ∧ W.heap[b + 1]? = some (.cells #[.int .i64 v] 3 (0, 0)) ∧ W.heap[b + 1 + 1]? = some (.cells #[m0, m1, .int .i64 mo] 25 (0, 0)) ∧
  W.heap[b + 1 + 1 + 1]? = some (.cells #[.slice none 0 0, .slice none 0 0, .int .i64 0] 25 (0, 0)) ∧ W.heap[b + 1 + 1 + 1 + 1]? = some (.cells #[.int .i64 0] 29 (0, 0))
theorem Boxes.keep {b : Nat} {n0 n1 m0 m1 : Value} {no v mo : Int} {W W' : World} (h : Boxes b n0 n1 m0 m1 no v mo W) (hk : ∀ k, b ≤ k → k < b + 5 → W'.heap[k]? = W.heap[k]?) : Boxes b n0 n1 m0 m1 no v mo W' :=
  ⟨(hk _ (by omega) (by omega)).trans h.1, (hk _ (by omega) (by omega)).trans h.2.1, (hk _ (by omega) (by omega)).trans h.2.2.1, (hk _ (by omega) (by omega)).trans h.2.2.2.1, (hk _ (by omega) (by omega)).trans h.2.2.2.2⟩
theorem Boxes.lt {b : Nat} {n0 n1 m0 m1 : Value} {no v mo : Int} {W : World} (h : Boxes b n0 n1 m0 m1 no v mo W) : b + 5 ≤ W.heap.size := row_lt h.2.2.2.2
theorem Boxes.below {b : Nat} {n0 n1 m0 m1 : Value} {no v mo : Int} {W W' : World} (h : Boxes b n0 n1 m0 m1 no v mo W) (hB : Below W.heap.size W W') : Boxes b n0 n1 m0 m1 no v mo W' :=
  h.keep (fun k _ h2 => hB.block k (by have := h.lt; omega))
theorem Boxes.grown {b : Nat} {n0 n1 m0 m1 : Value} {no v mo : Int} {W W' : World} {row : Option Nat} (h : Boxes b n0 n1 m0 m1 no v mo W) (hG : W.grownBy W' row) (hr : ∀ r, row = some r → b + 5 ≤ r) : Boxes b n0 n1 m0 m1 no v mo W' :=
  h.keep (fun k _ h2 => hG.block k (by have := h.lt; omega) (fun e => by have := hr k e.symm; omega))
theorem Boxes.cells {b : Nat} {n0 n1 m0 m1 : Value} {no v mo : Int} {W : World} (h : Boxes b n0 n1 m0 m1 no v mo W) :
    W.cell? ⟨b, 0, none⟩ = some n0 ∧ W.cell? ⟨b, 1, none⟩ = some n1 ∧ W.cell? ⟨b, 2, none⟩ = some (.int .i64 no) ∧ W.cell? ⟨b + 1, 0, none⟩ = some (.int .i64 v) ∧
    W.cell? ⟨b + 1 + 1, 0, none⟩ = some m0 ∧ W.cell? ⟨b + 1 + 1, 1, none⟩ = some m1 ∧ W.cell? ⟨b + 1 + 1, 2, none⟩ = some (.int .i64 mo) :=
  ⟨cell_row h.1 rfl, cell_row h.1 rfl, cell_row h.1 rfl, cell_row h.2.1 rfl, cell_row h.2.2.1 rfl, cell_row h.2.2.1 rfl, cell_row h.2.2.1 rfl⟩
theorem comp_err2 {fn : Func} (hfn : fn.results = #[.cell 6 25, .cell 7 29]) {w W : World} {n0 n1 m0 m1 : Value} {no v mo : Int} (hX : Boxes w.heap.size n0 n1 m0 m1 no v mo W) (hB : Below w.heap.size w W) (k : Int) {r : PNet × Int} (hr : r = (noNet, k)) {tmps : Array Value}
    (hp : tmps.getD 6 undef = .pointer (some ⟨w.heap.size + 1 + 1 + 1, 0, none⟩)) (hq : tmps.getD 7 undef = .pointer (some ⟨w.heap.size + 1 + 1 + 1 + 1, 0, none⟩)) :
    (W.frozen? ⟨w.heap.size + 1 + 1 + 1, 0, none⟩ = false ∧ W.cell? ⟨w.heap.size + 1 + 1 + 1, 0, none⟩ = some (.slice none 0 0)) ∧
    bodyPostM Fence.wide 0 Try.prog fn (CofPost w r) .ret { tmps := tmps, defers := [] } ((((W.setCell ⟨w.heap.size + 1 + 1 + 1, 0, none⟩ (.slice none 0 0)).setCell ⟨w.heap.size + 1 + 1 + 1, 1, none⟩ (.slice none 0 0)).setCell ⟨w.heap.size + 1 + 1 + 1, 2, none⟩ (.int .i64 0)).setCell ⟨w.heap.size + 1 + 1 + 1 + 1, 0, none⟩ (.int .i64 k)) := by
  obtain ⟨⟨f0, c0, f1, c1, f2, c2, f3, c3⟩, ra, rb, rk⟩ := put4 hX.2.2.2.1 hX.2.2.2.2 (by omega) (.slice none 0 0) (.slice none 0 0) (.int .i64 0) (.int .i64 k)
  exact ⟨⟨f0, c0⟩, _, results_rows2 hfn tmps _ _ _ 29 _ _ hp hq (load25 ra) rb, comp_err hB (by omega) (by omega) rk hr⟩
theorem comp_end {fn : Func} (hfn : fn.results = #[.cell 6 25, .cell 7 29]) {w W4 : World} {D : Nat} {v0 v1 v2 : Value} {c : Int} {r : PNet × Int} {t t2 : TypeId} (ra : W4.heap[w.heap.size + 1 + 1 + 1]? = some (.cells #[v0, v1, v2] t (0, 0)))
    (rb : W4.heap[w.heap.size + 1 + 1 + 1 + 1]? = some (.cells #[.int .i64 c] t2 (0, 0))) (hD : W4.heap[D]? = some (.deferred (some []))) (hd1 : w.heap.size + 5 ≤ D) {tmps : Array Value}
    (hp : tmps.getD 6 undef = .pointer (some ⟨w.heap.size + 1 + 1 + 1, 0, none⟩)) (hq : tmps.getD 7 undef = .pointer (some ⟨w.heap.size + 1 + 1 + 1 + 1, 0, none⟩))
    (h : CofPost w r (.returned (.tuple #[.agg #[v0, v1, v2], .int .i64 c])) (W4.putObj D (.deferred none))) :
    bodyPostM Fence.wide 0 Try.prog fn (CofPost w r) .ret { tmps := tmps, defers := [{ target := .collected D, args := #[] }] } W4 :=
  ⟨by simp, .inl ⟨_, _, rfl, run_takeDeferred hD, ⟨_, results_rows2 hfn tmps _ _ _ t2 _ _ hp hq (load25 ((World.putObj_heap_other (by omega)).trans ra)) ((World.putObj_heap_other (by omega)).trans rb), h⟩⟩⟩
theorem comp_err4 {fn : Func} (hfn : fn.results = #[.cell 6 25, .cell 7 29]) {w W : World} {n0 n1 m0 m1 : Value} {no v mo : Int} (hX : Boxes w.heap.size n0 n1 m0 m1 no v mo W) (hB : Below w.heap.size w W) (k : Int) {r : PNet × Int} (hr : r = (noNet, k)) {D : Nat}
    (hD : W.heap[D]? = some (.deferred (some []))) (hd1 : w.heap.size + 5 ≤ D) {tmps : Array Value}
    (hp : tmps.getD 6 undef = .pointer (some ⟨w.heap.size + 1 + 1 + 1, 0, none⟩)) (hq : tmps.getD 7 undef = .pointer (some ⟨w.heap.size + 1 + 1 + 1 + 1, 0, none⟩)) :
    bodyPostM Fence.wide 0 Try.prog fn (CofPost w r) .ret { tmps := tmps, defers := [{ target := .collected D, args := #[] }] } ((((W.setCell ⟨w.heap.size + 1 + 1 + 1, 0, none⟩ (.slice none 0 0)).setCell ⟨w.heap.size + 1 + 1 + 1, 1, none⟩ (.slice none 0 0)).setCell ⟨w.heap.size + 1 + 1 + 1, 2, none⟩ (.int .i64 0)).setCell ⟨w.heap.size + 1 + 1 + 1 + 1, 0, none⟩ (.int .i64 k)) := by
  obtain ⟨-, ra, rb, rk⟩ := put4 hX.2.2.2.1 hX.2.2.2.2 (by omega) (.slice none 0 0) (.slice none 0 0) (.int .i64 0) (.int .i64 k)
  have hl := row_lt hD
  have hd4 := (rk.block D hl (fun h => by rcases h with h | ⟨h, _⟩ <;> omega)).trans hD
  refine comp_end hfn ra rb hd4 hd1 hp hq ?_
  rw [hr]
  have hBW : Below w.heap.size w _ := rk.toBelow hB hB.size (fun k h => by omega)
  exact ⟨hBW.grown (grownBy_putObj' _ D (.deferred none)) hBW.size (fun r e => by injection e with e; omega), _, rfl, net_noF _ _⟩
theorem postM_ret {fn : Func} {R : Ending → World → Prop} {tmps : Array Value} {w : World} {v : Value} (hr : (results fn tmps).run Try.prog w = .ok v w) (h : R (.returned v) w) : bodyPostM Fence.wide 0 Try.prog fn R .ret { tmps := tmps, defers := [] } w := ⟨v, hr, h⟩
set_option maxRecDepth 100000 in
set_option maxHeartbeats 1000000 in
theorem Compose_any (v1 v2 : Value) (N M : PNet) (v : Int) (w : World) (hN : NetAt w v1 N) (hM : NetAt w v2 M) (hv : I64 v) (hlN : litSum N.gates ≤ 1152921504606846976) (hlM : litSum M.gates ≤ 1152921504606846976)
    (hgN : N.gates.length ≤ 500000) (hgM : M.gates.length ≤ 500000) :
    Calls Try.prog 23 #[v1, .int .i64 v, v2] w (CofPost w (composeP N v M)) := by
  have hN0 := hN
  have hM0 := hM
  obtain ⟨vp, vg, rfl, ho, hp, hgt⟩ := hN
  obtain ⟨vq, vh, rfl, ho', hp', hgt'⟩ := hM
  obtain ⟨Ap, cp, rfl, hlp, hcp⟩ := hp.form
  obtain ⟨Ag, cg, rfl, hlg, hcg⟩ := hgt.form
  obtain ⟨Aq, cq, rfl, hlq, hcq⟩ := hp'.form
  obtain ⟨Ah, ch, rfl, hlh, hch⟩ := hgt'.form
  obtain ⟨w1, hw1, -, -, hz1, hB1, q1⟩ := new_block w #[.slice Ap N.pre.length cp, .slice Ag N.gates.length cg, .int .i64 N.out] 25
  obtain ⟨w2, hw2, -, -, hz2, hB2, q2⟩ := new_block w1 #[.int .i64 v] 3
  obtain ⟨w3, hw3, -, -, hz3, hB3, q3⟩ := new_block w2 #[.slice Aq M.pre.length cq, .slice Ah M.gates.length ch, .int .i64 M.out] 25
  obtain ⟨w4, hw4, -, -, hz4, hB4, q4⟩ := new_block w3 #[.slice none 0 0, .slice none 0 0, .int .i64 0] 25
  obtain ⟨w5, hw5, -, -, hz5, hB5, q5⟩ := new_block w4 #[.int .i64 0] 29
  rw [hz1] at hz2 q2
  rw [hz2] at hz3 q3
  rw [hz3] at hz4 q4
  rw [hz4] at hz5 q5
  have hB05 := below_then (below_then (below_then (below_then hB1 hB1.size hB2) (by omega) hB3) (by omega) hB4) (by omega) hB5
  have hX5 : Boxes w.heap.size (.slice Ap N.pre.length cp) (.slice Ag N.gates.length cg) (.slice Aq M.pre.length cq) (.slice Ah M.gates.length ch) N.out v M.out w5 :=
    ⟨row_below (row_below (row_below (row_below q1 hB2) hB3) hB4) hB5, row_below (row_below (row_below q2 hB3) hB4) hB5, row_below (row_below q3 hB4) hB5, row_below q4 hB5, q5⟩
  obtain ⟨n0, n1, n2, nv, m0, m1, m2⟩ := hX5.cells
  clear q1 q2 q3 q4 q5 hB1 hB2 hB3 hB4 hB5
  have CN := May_any (.agg #[.slice Ap N.pre.length cp, .slice Ag N.gates.length cg, .int .i64 N.out]) N w5 (hN0.keep (keeps_below hB05)) (by omega)
  have CM := fun W (hW : Below w5.heap.size w5 W) => May_any (.agg #[.slice Aq M.pre.length cq, .slice Ah M.gates.length ch, .int .i64 M.out]) M W (hM0.keep (keeps_below (below_then hB05 hB05.size hW))) (by omega)
  refine callsIn_wide.1 (callsIn_of_wp_marks (n := 0) Try.func23 rfl trivial ?_ rfl)
  simp only [Try.ntmps23, List.size_toArray, List.length_cons, List.length_nil, Nat.reduceAdd, Nat.reduceSub, Array.replicate_succ, Array.replicate_zero, List.push_toArray, List.append_toArray, List.nil_append, List.cons_append]
  refine wpIn_wide.2 ?_
  cases hm : mayP N with
  | false =>
    rw [hm] at CN
    have e : composeP N v M = (noNet, 2) := by unfold composeP; rw [hm]; rfl
    have HE := hid e
    clear e hm CM
    go_wp2_with fail
    refine CN.mono ?_
    rintro e w6 ⟨rfl, hB6⟩
    have hX6 := hX5.below hB6
    obtain ⟨⟨f0, c0, f1, c1, f2, c2, f3, c3⟩, ra, rb, rk⟩ := put4 hX6.2.2.2.1 hX6.2.2.2.2 (by omega) (.slice none 0 0) (.slice none 0 0) (.int .i64 0) (.int .i64 2)
    go_wp2_with fail
    exact (comp_err2 rfl hX6 (below_then hB05 hB05.size hB6) 2 HE.out rfl rfl).2
  | true =>
    have HMN := hid hm
    rw [hm] at CN
    clear hm
    cases hm2 : mayP M with
    | false =>
      have e : composeP N v M = (noNet, 2) := by unfold composeP; rw [HMN.out, hm2]; rfl
      have HE := hid e
      rw [hm2] at CM
      clear e hm2
      go_wp2_with fail
      refine CN.mono ?_
      rintro e w6 ⟨rfl, hB6⟩
      have CM' := CM w6 hB6
      have hX6 := hX5.below hB6
      obtain ⟨-, -, -, -, q0, q1, q2⟩ := hX6.cells
      clear CN CM
      go_wp2_with fail
      refine CM'.mono ?_
      rintro e w7 ⟨rfl, hB7⟩
      have hX7 := hX6.below hB7
      obtain ⟨⟨f0, c0, f1, c1, f2, c2, f3, c3⟩, ra, rb, rk⟩ := put4 hX7.2.2.2.1 hX7.2.2.2.2 (by omega) (.slice none 0 0) (.slice none 0 0) (.int .i64 0) (.int .i64 2)
      go_wp2_with fail
      exact (comp_err2 rfl hX7 (below_then (below_then hB05 hB05.size hB6) (by have := hX6.lt; omega) hB7) 2 HE.out rfl rfl).2
    | true =>
      have HMM := hid hm2
      rw [hm2] at CM
      clear hm2
      obtain ⟨hpreN, hlitN, -⟩ := mayP_pre HMN.out
      obtain ⟨hpreM, hlitM, -⟩ := mayP_pre HMM.out
      have HPN := hid hpreN
      have HPM := hid hpreM
      clear hpreN hpreM
      go_wp2_with fail
      refine CN.mono ?_
      rintro e w6 ⟨rfl, hB6⟩
      have CM' := CM w6 hB6
      have hX6 := hX5.below hB6
      obtain ⟨-, -, -, -, q0, q1, q2⟩ := hX6.cells
      clear CN CM
      go_wp2_with fail
      refine CM'.mono ?_
      rintro e w7 ⟨rfl, hB7⟩
      have hX7 := hX6.below hB7
      have hB07 := below_then (below_then hB05 hB05.size hB6) (by have := hX6.lt; omega) hB7
      obtain ⟨w8, hw8, hS8, hz8, hB8⟩ := new_set w7 86
      obtain ⟨w9, hw9, hS9, hz9, hB9⟩ := new_set w8 86
      rw [hz8] at hS9 hz9
      have hX9 := (hX7.below hB8).below hB9
      have hlt7 := hX7.lt
      have hB09 := below_then (below_then hB07 hB07.size hB8) (by omega) hB9
      have hS8' := hS8.below hB9
      have CP := prefix_any w7.heap.size 86 noS (.slice Ap N.pre.length cp) N.pre w9 w hp hB09 (by omega) hS8'
      rw [HPN.out] at CP
      obtain ⟨p0, -, -, -, -, -, -⟩ := hX9.cells
      clear CM' q0 q1 q2 n0 n1 n2 nv m0 m1 m2 hB8 hB9 hS8 hX7 hX6 hX5
      go_wp2_with fail
      refine CP.mono ?_
      rintro e wA ⟨rfl, hGA, SA, hSA, hSS⟩
      obtain rfl := hSS _ rfl
      obtain ⟨b8, hb8⟩ : ∃ b, b = w7.heap.size := ⟨_, rfl⟩
      rw [← hb8] at hGA hSA hS9 ⊢
      have h8r : w.heap.size + 5 ≤ b8 := by omega
      have hXA := hX9.grown hGA (fun r e => by injection e with e; omega)
      have hSg := hS9.kept hGA (by intro e; injection e with e; omega)
      have hBA : Below w.heap.size w wA := hB09.grown hGA hB09.size (fun r e => by injection e with e; omega)
      clear hb8 hS9 hX9 hGA hSS hB09 hw9 hw8 hw5 hw4 hw3 hw2 hw1 hz9 hz8 hlt7 hB07 hB7 hB6 hB05 hz1 hz2 hz3 hz4 hz5 p0 CP hS8'
      obtain ⟨n0, n1, n2, nv, m0, m1, m2⟩ := hXA.cells
      by_cases hv1 : v < 1
      · have e : composeP N v M = (noNet, 6) := by unfold composeP; rw [HMN.out, HMM.out, if_neg (by simp), if_pos (.inl hv1)]
        have HE := hid e
        clear e
        obtain ⟨⟨f0, c0, f1, c1, f2, c2, f3, c3⟩, ra, rb, rk⟩ := put4 hXA.2.2.2.1 hXA.2.2.2.2 (by omega) (.slice none 0 0) (.slice none 0 0) (.int .i64 0) (.int .i64 6)
        go_wp2_with fail
        exact (comp_err2 rfl hXA hBA 6 HE.out rfl rfl).2
      · have CH := has_any b8 86 (preS N) v wA hSA
        cases hh : preS N (absN v) with
        | false =>
          have e : composeP N v M = (noNet, 6) := by unfold composeP; rw [HMN.out, HMM.out, if_neg (by simp), if_pos (.inr hh)]
          have HE := hid e
          rw [hh] at CH
          clear e hh
          go_wp2_with fail
          refine CH.mono ?_
          rintro e wB ⟨rfl, nq, rfl⟩
          have hXB : Boxes w.heap.size (.slice Ap N.pre.length cp) (.slice Ag N.gates.length cg) (.slice Aq M.pre.length cq) (.slice Ah M.gates.length ch) N.out v M.out (wA.drewN nq) := hXA.keep (fun _ _ _ => rfl)
          obtain ⟨⟨f0, c0, f1, c1, f2, c2, f3, c3⟩, ra, rb, rk⟩ := put4 hXB.2.2.2.1 hXB.2.2.2.2 (by omega) (.slice none 0 0) (.slice none 0 0) (.int .i64 0) (.int .i64 6)
          go_wp2_with fail
          exact (comp_err2 rfl hXB (below_drewN hBA nq) 6 HE.out rfl rfl).2
        | true =>
          have HH := hid hh
          rw [hh] at CH
          have hRv := preS_R (N := N) (by rw [HPN.out]; rfl) _ hh
          have hvb := absN_pos hRv.1
          have hv2 : decide (v < 1) = false := decide_eq_false hv1
          have HV1 := hid hv1
          clear hh hv1
          go_wp2_with fail
          refine CH.mono ?_
          rintro e wB ⟨rfl, nq, rfl⟩
          obtain ⟨k, rfl⟩ : ∃ k : Nat, v = k := Int.eq_ofNat_of_zero_le (by have := HV1.out; omega)
          have hk1 : k < 65537 := by omega
          have HRV := hid hRv
          have HVB := hid hvb
          clear hv2 hRv hvb
          obtain ⟨WB, hWB⟩ : ∃ WB, wA.drewN nq = WB := ⟨_, rfl⟩
          have hXB : Boxes w.heap.size (.slice Ap N.pre.length cp) (.slice Ag N.gates.length cg) (.slice Aq M.pre.length cq) (.slice Ah M.gates.length ch) N.out k M.out WB := by rw [← hWB]; exact hXA.keep (fun _ _ _ => rfl)
          have hBB : Below w.heap.size w WB := by rw [← hWB]; exact below_drewN hBA nq
          have hS8 : SetAt WB b8 86 (preS N) := by rw [← hWB]; exact hSA.drewN nq
          have hSg2 : SetAt WB (b8 + 1) 86 noS := by rw [← hWB]; exact hSg.drewN nq
          rw [hWB]
          clear hWB hXA hBA hSA hSg CH n0 n1 n2 nv m0 m1 m2
          obtain ⟨n0, n1, n2, nv, m0, m1, m2⟩ := hXB.cells
          have gc := hSg2.cell k hk1
          have gf := hSg2.free k
          have hGC := grown_setCell WB ⟨b8 + 1, k, none⟩ (.bool true)
          have hXC := hXB.grown hGC (fun r e => by injection e with e; have e' : b8 + 1 = r := e; omega)
          have hSgC := hSg2.store k true
          have hS8C := hS8.kept hGC (by intro e; injection e with e; have e' : b8 + 1 = b8 := e; omega)
          have hBC := hBB.grown hGC hBB.size (fun r e => by injection e with e; have e' : b8 + 1 = r := e; omega)
          obtain ⟨n0', n1', n2', nv', m0', m1', m2'⟩ := hXC.cells
          have CV := vars_any Aq M.pre.length cq (WB.setCell ⟨b8 + 1, k, none⟩ (.bool true))
          go_wp2_with fail
          refine CV.mono ?_
          rintro e w' ⟨rfl, hw'⟩
          obtain ⟨WC, hWC⟩ : ∃ WC, WB.setCell ⟨b8 + 1, k, none⟩ (.bool true) = WC := ⟨_, rfl⟩
          rw [hWC] at hw' hXC hSgC hS8C hBC ⊢
          clear hWC n0' n1' n2' nv' m0' m1' m2' n0 n1 n2 nv m0 m1 m2 CV gc gf hGC hS8 hSg2 hBB hXB
          obtain ⟨wD, hwD, hcD, -, hzD, hBD, hrowD⟩ := new_block WC #[.slice Aq M.pre.length cq] 22
          rw [hwD] at hw'
          rw [hw']
          clear hw' hwD
          have hbx : wD.cell? ⟨WC.heap.size, 0, none⟩ = some (.slice Aq M.pre.length cq) := hcD 0 _ rfl
          have hXD := hXC.below hBD
          have hSgD := hSgC.below hBD
          have hS8D := hS8C.below hBD
          have hB0D := below_then hBC hBC.size hBD
          have hvr := (pre_rng (N := M) (by rw [HPM.out]; rfl)).1
          have hltD := hXD.lt
          have hl8 := hS8D.lt
          have hlg8 := hSgD.lt
          clear hXC hSgC hS8C hBC hBD hcD hrowD
          go_wp2_with fail
          refine wp_rangeFunc_R (gf := 91) (lb := #[.pointer (some ⟨WC.heap.size, 0, none⟩)]) (encs := fun x : Int => #[.int .i64 x]) (Kp := KeepX w.heap.size (fun _ => False) 0) (row0 := none) (xs := varsOf M.pre) (Fin := fun _ => True) (w0 := wD) rfl (enters_of Try.func91 (by kernel_rfl) rfl)
            (vars_seq hcq hbx (Nat.le_refl _) (fun k h => h.elim) hp' hB0D) (fun _ _ _ _ _ => trivial) (fun r e => by cases e) KeepX.trans KeepX.record (Below.refl _ _) (fun x => rfl)
            (fun pre W => Below wD.heap.size wD W ∧ ∀ x ∈ pre, (decide (x = (k : Int)) || !preS N x.toNat) = false)
            (fun c pre W => c = .ret ∧ W.heap[w.heap.size + 1 + 1 + 1]? = some (.cells #[.slice none 0 0, .slice none 0 0, .int .i64 0] 25 (0, 0)) ∧ W.heap[w.heap.size + 1 + 1 + 1 + 1]? = some (.cells #[.int .i64 4] 29 (0, 0)) ∧
              Below w.heap.size w W ∧ w.heap.size + 5 ≤ W.heap.size ∧ ∃ x ∈ varsOf M.pre, (decide (x = (k : Int)) || !preS N x.toNat) = true)
            (fun s A B row hs hG hr => ⟨hs.1.grown hG hs.1.size (fun r e => (hr r e).elim (fun h => by cases h) (fun h => h.1)), hs.2⟩)
            (fun c s A B row hs hG hr => by
              obtain ⟨h1, h2, h3, h4, h5, h6⟩ := hs
              have hne : ∀ r, row = some r → wD.heap.size ≤ r := fun r e => (hr r e).elim (fun h => by cases h) (fun h => h.1)
              exact ⟨h1, row_grown h2 hG (fun e => by have := hne _ e; omega), row_grown h3 hG (fun e => by have := hne _ e; omega), h4.grown hG h4.size (fun r e => by have := hne _ e; omega), Nat.le_trans h5 hG.size, h6⟩)
            ⟨Below.refl _ _, fun x hx => by cases hx⟩ ?round ?done ?stop
          case round =>
            rintro l pre x rest W K hxs hl ⟨hB, hall⟩ hK
            have hx := hvr x (by rw [hxs]; simp)
            have hxm : x ∈ varsOf M.pre := by rw [hxs]; simp
            dsimp only
            gi_wp2
            refine hK _ _ (KeepsFrom.refl _ _) (KeepX.refl _ _ _ _) ⟨hB, hall⟩ (fun Wb hgb hol hr hIb => ?_)
            obtain ⟨hBb, -⟩ := hIb
            clear hK hgb hr hB
            have hXb := hXD.below hBb
            have hB0b := below_then hB0D hB0D.size hBb
            obtain ⟨n0, n1, n2, nv, m0, m1, m2⟩ := hXb.cells
            obtain ⟨q, rfl⟩ : ∃ q : Nat, x = q := Int.eq_ofNat_of_zero_le (by omega)
            have hq1 : q < 65537 := by omega
            have hcq8 := (hS8D.below hBb).cell q hq1
            have HX := hid hx
            clear hx hxs
            have hpost : ∀ W4, KeepX Wb.heap.size (fun j => j = w.heap.size + 1 + 1 + 1 ∨ j = w.heap.size + 1 + 1 + 1 + 1) 0 Wb W4 → KeepsFrom wD.heap.size Wb W4 ∧ Below w.heap.size w W4 ∧ w.heap.size + 5 ≤ W4.heap.size := fun W4 hk4 => by
              have h1 := hk4.size
              have h2 := hXb.lt
              exact ⟨hk4.from _ (fun j h => by omega), hk4.toBelow hB0b (by omega) (fun j h => by omega), by omega⟩
            by_cases hqk : (q : Int) = (k : Int)
            · have hz : ((q : Int) == (k : Int)) = true := by rw [beq_iff_eq]; exact hqk
              obtain ⟨⟨f0, c0, f1, c1, f2, c2, f3, c3⟩, ra, rb, rk⟩ := put4 hXb.2.2.2.1 hXb.2.2.2.2 (by omega) (.slice none 0 0) (.slice none 0 0) (.int .i64 0) (.int .i64 4)
              obtain ⟨P1, P2, P3⟩ := hpost _ rk
              have HQ := hid hqk
              clear hqk hcq8
              gi_wp2
              exact ⟨P1, rfl, ra, rb, P2, P3, q, hxm, by rw [decide_eq_true HQ.out]; rfl⟩
            · have hz : ((q : Int) == (k : Int)) = false := by rw [beq_eq_false_iff_ne]; exact hqk
              have HQ := hid hqk
              clear hqk
              cases hpq : preS N q with
              | false =>
                rw [hpq] at hcq8
                have HPQ := hid hpq
                obtain ⟨⟨f0, c0, f1, c1, f2, c2, f3, c3⟩, ra, rb, rk⟩ := put4 hXb.2.2.2.1 hXb.2.2.2.2 (by omega) (.slice none 0 0) (.slice none 0 0) (.int .i64 0) (.int .i64 4)
                obtain ⟨P1, P2, P3⟩ := hpost _ rk
                clear hpq
                gi_wp2
                exact ⟨P1, rfl, ra, rb, P2, P3, q, hxm, by rw [decide_eq_false HQ.out, Int.toNat_natCast, HPQ.out]; rfl⟩
              | true =>
                rw [hpq] at hcq8
                have HPQ := hid hpq
                clear hpq
                gi_wp2
                refine ⟨KeepsFrom.refl _ _, KeepX.refl _ _ _ _, hBb, fun y hy => ?_⟩
                rcases List.mem_append.1 hy with hy | hy
                · exact hall y hy
                · rw [List.mem_singleton.1 hy, decide_eq_false HQ.out, Int.toNat_natCast, HPQ.out]; rfl
          case stop =>
            rintro D c pre W hD hp ⟨rfl, h2, h3, h4, h5, h6⟩ hdef
            go_wp2
            have hr : composeP N k M = (noNet, 4) := by
              unfold composeP
              rw [HMN.out, HMM.out, if_neg (by simp), if_neg (by rw [HH.out]; have := HV1.out; simp; omega), if_pos (List.any_eq_true.2 h6)]
            refine ⟨by simp, .inl ⟨_, _, rfl, run_takeDeferred hdef, ?_⟩⟩
            have oT : ∀ j, j ≠ D → (W.putObj D (.deferred none)).heap[j]? = W.heap[j]? := fun j h => World.putObj_heap_other h
            refine ⟨_, results_rows2 (p := 6) (q := 7) rfl _ _ _ _ 29 _ _ rfl rfl (load25 ((oT _ (by omega)).trans h2)) ((oT _ (by omega)).trans h3), ?_⟩
            rw [hr]
            exact ⟨h4.grown (grownBy_putObj' W D (.deferred none)) h4.size (fun r e => by injection e with e; omega), _, rfl, net_noF _ _⟩
          case done =>
            rintro D WE hD ⟨hBE, hall⟩ - hdef
            have hany : ((varsOf M.pre).any fun x => decide (x = (k : Int)) || !preS N x.toNat) = false := by
              rw [List.any_eq_false]; intro x hx; rw [hall x hx]; simp
            have HANY := hid hany
            clear hany hall hvr
            have hXE := hXD.below hBE
            have hB0E := below_then hB0D hB0D.size hBE
            have hSgE := hSgD.below hBE
            have hS8E := hS8D.below hBE
            have hltE := hXE.lt
            have hlE8 := hS8E.lt
            have hlE9 := hSgE.lt
            have hDlt := row_lt hdef
            clear hXD hSgD hS8D hB0D hBE hbx
            obtain ⟨n0, n1, n2, nv, m0, m1, m2⟩ := hXE.cells
            clear n0 n2 nv m0 m1 m2
            go_wp2_with fail
            have hgv := mayP_gates HMN.out
            have HGV := hid hgv
            clear hgv n1
            go_loopg [12, 62] N.gates.length (fun gg _ s62 wr => ∃ j : Nat, j ≤ N.gates.length ∧ N.gates.length - j ≤ gg ∧ s62 = .int .i64 j ∧ WE.grownBy wr (some b8) ∧ SetAt wr b8 86 (usedG (preS N) (N.gates.take j)))
            case atStart => exact ⟨0, Nat.zero_le _, by omega, rfl, World.grownBy.refl _ _, hS8E⟩
            case round =>
              obtain ⟨j, hj, hgj, rfl, hG, hS⟩ := hrel
              have hBr : Below w.heap.size w wr := hB0E.grown hG hB0E.size (fun r e => by injection e with e; omega)
              by_cases hlt : j < N.gates.length
              · obtain ⟨g, hgx, hgm, hgd⟩ := nth hlt
                obtain ⟨bg, offg, vi, eA, hc0, hc1, hc2, hi, h64, hkd0, hkd1⟩ := (hgt.keep (keeps_below hBr)).at_ j g hgx
                subst eA
                obtain ⟨Ai, ci, rfl, hli, hci⟩ := hi.form
                have hltz : (j : Int) < (N.gates.length : Int) := by omega
                obtain ⟨-, hg1, hg2⟩ := HGV.out g hgm
                obtain ⟨m, hm⟩ : ∃ m : Nat, g.var = m := Int.eq_ofNat_of_zero_le (by omega)
                have hm1 : m < 65537 := by omega
                rw [hm] at hc0
                have htk : usedG (preS N) (N.gates.take (j + 1)) = upd (usedG (preS N) (N.gates.take j)) m true := by
                  rw [take_snoc hgx]; unfold usedG; rw [List.foldl_append, List.foldl_cons, List.foldl_nil, hm]; rfl
                have HTK := hid htk
                obtain ⟨wN, hwN, hcN, -, hzN, hBN, -⟩ := new_block wr #[.int .i64 (m : Int), .int .u8 g.kind, .slice Ai g.ins.length ci] 70
                have x0 : wN.cell? ⟨wr.heap.size, 0, none⟩ = some (.int .i64 (m : Int)) := hcN 0 _ rfl
                have hS2 := hS.below hBN
                have cx := hS2.cell m hm1
                have fx := hS2.free m
                have HS2 := hid hS2
                clear htk hgx hgd hcN hi hli hci h64 hg1 hg2 hm hS hS2 hXE hSgE hS8E
                go_wp2_with fail
                go_roundg (N.gates.length - (j + 1))
                case measure => omega
                case rel => exact ⟨j + 1, by omega, by omega, by go_num, (hG.trans (grown_of_below hBN _)).trans (grown_setCell _ _ _), by rw [HTK.out]; exact HS2.out.store m true⟩
              · have hltz : ¬ (j : Int) < (N.gates.length : Int) := by omega
                rw [List.take_of_length_le (by omega : N.gates.length ≤ j)] at hS
                have hXr := hXE.grown hG (fun r e => by injection e with e; omega)
                have hSgr := hSgE.kept hG (by intro e; injection e with e; omega)
                have hdr := row_grown hdef hG (by intro e; injection e with e; omega)
                go_wp2_with fail
                obtain ⟨WF, rfl⟩ : ∃ WF, WF = wr := ⟨_, rfl⟩
                obtain ⟨n0, n1, n2, nv, m0, m1, m2⟩ := hXr.cells
                have g1 := fun p => cell_since n1 p
                have g2 := fun p => cell_since m1 p
                have CL1 := fun p => literals_any (.slice Ag N.gates.length cg) N.gates (since WF p) (hgt.keep (keeps_below (below_then hBr hBr.size (since_below WF p)))) (by omega)
                have CL2 := fun p => literals_any (.slice Ah M.gates.length ch) M.gates (since WF p) (hgt'.keep (keeps_below (below_then hBr hBr.size (since_below WF p)))) (by omega)
                obtain ⟨lN, hlN'⟩ : ∃ x, litSum N.gates = x := ⟨_, rfl⟩
                obtain ⟨lM, hlM'⟩ : ∃ x, litSum M.gates = x := ⟨_, rfl⟩
                rw [hlN'] at CL1 hlN hlitN
                rw [hlM'] at CL2 hlM hlitM
                have HLN := hid hlN'
                have HLM := hid hlM'
                have hw1 : IntKind.i64.wrap ((lN : Int) + (lM : Int)) = (lN : Int) + (lM : Int) := IntWalk.i64_in _ (by omega)
                clear hlN' hlM' n0 n1 n2 nv m0 m1 m2 hS8E hSgE hXE hdef hltz hlt hgj hj hB0E hG
                refine region_quiet (by kernel_rfl) (by kernel_rfl) ?_
                iterate 3 (first | go_big_quiet_step ((go_at_call 57; exact calls_since (CL1 _))) | quiet_step ((go_at_call 57; exact calls_since (CL1 _))))
                clear CL1 g1
                repeat (first | go_big_quiet_step ((go_at_call 57; exact calls_since (CL2 _))) | quiet_step ((go_at_call 57; exact calls_since (CL2 _))))
                refine wpQuiet_nil ?_
                rintro WG ⟨pw, hWG⟩
                have hBG : Below WF.heap.size WF WG := by rw [hWG]; exact since_below WF pw
                clear hWG CL2 g2 hw1
                have hXG := hXr.below hBG
                have hSG := hS.below hBG
                have hSgG := hSgr.below hBG
                have hdG := row_below hdr hBG
                have hB0G := below_then hBr hBr.size hBG
                have hlG := hXG.lt
                have hlG8 := hSG.lt
                have hlGD := row_lt hdG
                have hDD : w.heap.size + 5 ≤ D := by omega
                clear hXr hS hSgr hdr hBr hBG
                by_cases hlong : 200000 < lN + lM
                · have hq2 : (200000 : Int) < (lN : Int) + (lM : Int) := by omega
                  have e : composeP N k M = (noNet, 3) := by
                    unfold composeP
                    rw [HMN.out, HMM.out, if_neg (by simp), if_neg (by rw [HH.out]; have := HV1.out; simp; omega), if_neg (by rw [HANY.out]; simp), if_pos (by rw [HLN.out, HLM.out]; exact hlong)]
                  have HE := hid e
                  obtain ⟨⟨f0, c0, f1, c1, f2, c2, f3, c3⟩, ra, rb, rk⟩ := put4 hXG.2.2.2.1 hXG.2.2.2.2 (by omega) (.slice none 0 0) (.slice none 0 0) (.int .i64 0) (.int .i64 3)
                  clear e hlong
                  go_wp2_with fail
                  exact comp_err4 rfl hXG hB0G 3 HE.out hdG hDD rfl rfl
                · have hq2 : ¬ (200000 : Int) < (lN : Int) + (lM : Int) := by omega
                  have hR : composeP N k M = match compGo (usedG (preS N) N.gates) 0 noTo [] M.gates with | none => (noNet, 3) | some r => (compEnd N k M r, 0) := by
                    unfold composeP
                    rw [HMN.out, HMM.out, if_neg (by simp), if_neg (by rw [HH.out]; have := HV1.out; simp; omega), if_neg (by rw [HANY.out]; simp), if_neg (by rw [HLN.out, HLM.out]; exact hlong)]
                    cases compGo (usedG (preS N) N.gates) 0 noTo [] M.gates <;> rfl
                  have HR := hid hR
                  clear hR hlong
                  obtain ⟨wH, hwH⟩ : ∃ wH, WG.alloc (.map #[] 0) = wH := ⟨_, rfl⟩
                  have hzH : wH.heap.size = WG.heap.size + 1 := by rw [← hwH]; exact World.size_alloc _ _
                  have hMH : IntMap wH WG.heap.size (toV noTo) := by rw [← hwH]; exact IntMap.new WG
                  have hBH : Below WG.heap.size WG wH := by rw [← hwH]; exact (Below.refl _ WG).alloc (Nat.le_refl _) _
                  have hmm := @run_makeMap Try.prog
                  obtain ⟨wI, hwI, -, -, hzI, hBI, r13⟩ := new_block wH #[.map (some WG.heap.size)] 101
                  obtain ⟨wJ, hwJ, -, -, hzJ, hBJ, r14⟩ := new_block wI #[.func (.func 58) #[] #[.pointer (some ⟨WG.heap.size + 1, 0, none⟩)]] 56
                  rw [hzH] at r13 hzI
                  rw [hzI] at r14 hzJ
                  have hBGJ := below_then (below_then hBH (by omega) hBI) (by omega) hBJ
                  have hXJ := hXG.below hBGJ
                  have hB0J := below_then hB0G hB0G.size hBGJ
                  have hSgJ := hSgG.below hBGJ
                  obtain ⟨n0, -, -, -, -, -, -⟩ := hXJ.cells
                  have hpN := pre_rng (N := N) (by rw [HPN.out]; rfl)
                  have hneN := alt_ne (preS_of (N := N) (by rw [HPN.out]; rfl)).1
                  have CW := without_any (.slice Ap N.pre.length cp) N.pre (b8 + 1) 86 (upd noS k true) wJ (hp.keep (keeps_below hB0J)) hSgJ (by have := blocks_le hneN; omega)
                    (fun x hx => ⟨hneN x hx, by have := (block_le hx).1; omega, fun y hy => by have := hpN.1 y ((block_le hx).2 y hy); omega⟩)
                  have HPR := hid hpN
                  clear hpN hneN
                  go_wp2_with fail
                  refine CW.mono ?_
                  rintro e wK ⟨hBK, vo, rfl, hOK⟩
                  obtain ⟨Ao, co, rfl, -⟩ := hOK.form
                  have hsK := hBK.size
                  obtain ⟨nP, hnP⟩ : ∃ n, (withoutP (upd noS k true) N.pre).length = n := ⟨_, rfl⟩
                  have HNP := hid hnP
                  rw [hnP] at hOK ⊢
                  have hBL : Below wK.heap.size wK (wK.alloc (.cells #[.slice Ao nP co, .slice none 0 0, .int .i64 0] 25)) := (Below.refl _ wK).alloc (Nat.le_refl _) _
                  have hBJL := below_then hBK hsK hBL
                  have hXL := hXJ.below hBJL
                  obtain ⟨-, -, -, -, -, m1, -⟩ := hXL.cells
                  clear n0 CW hmm hnP
                  go_wp2_with fail
                  have r15 : (wK.alloc (.cells #[.slice Ao nP co, .slice none 0 0, .int .i64 0] 25)).heap[wK.heap.size]? = some (.cells #[.slice Ao nP co, .slice none 0 0, .int .i64 0] 25 (0, 0)) := heap_alloc_new wK _
                  have hzL : (wK.alloc (.cells #[.slice Ao nP co, .slice none 0 0, .int .i64 0] 25)).heap.size = wK.heap.size + 1 := World.size_alloc _ _
                  revert hBL hBJL hXL m1 r15 hzL
                  generalize wK.alloc (.cells #[.slice Ao nP co, .slice none 0 0, .int .i64 0] 25) = wL
                  intro hBL hBJL hXL m1 r15 hzL
                  have hBGL := below_then hBGJ (by have := hBGJ.size; omega) hBJL
                  have hB0L := below_then hB0G hB0G.size hBGL
                  have hSL := hSG.below hBGL
                  have hdL := row_below hdG hBGL
                  have hML := ((hMH.below hBI).below hBJ).below hBJL
                  have r13L := row_below (row_below r13 hBJ) hBJL
                  have r14L := row_below r14 hBJL
                  have hOL := hOK
                  obtain ⟨b15, hb15⟩ : ∃ b, b = wK.heap.size := ⟨_, rfl⟩
                  obtain ⟨r, hr⟩ : ∃ b, b = WG.heap.size := ⟨_, rfl⟩
                  rw [← hb15] at r15 hzL ⊢
                  rw [← hr] at r13L r14L hML ⊢
                  have hsz : w.heap.size + 5 ≤ r ∧ r + 3 ≤ b15 ∧ b8 < r ∧ D < r ∧ b15 + 1 = wL.heap.size := by omega
                  have HZK : Hid (wK.heap.size = b15 ∧ r + 3 ≤ wJ.heap.size) := hid (by omega)
                  have HBL := hid hBL
                  clear hwH hzH hMH hBH hwI hzI hBI r13 hwJ hzJ hBJ r14 hBGJ hB0J hSgJ hXJ hXG hSG hSgG hdG hB0G hlG hlG8 hlGD hb15 hr
                  obtain ⟨hmS, hmL1, hmL2⟩ : ∃ S, mayGates (preS M) M.gates = some S ∧ S (absN M.out) = true := (mayP_pre HMM.out).2.2
                  have HLT := hid (may_lits HMM.out)
                  have HLTN := hid (may_lits HMN.out)
                  clear hmS hmL1 hmL2 m1
                  have hcv : ∀ (j : Nat), j ≤ 65536 → IntKind.i64.wrap ((j : Int) + 1) = (j : Int) + 1 := fun j hj => IntWalk.i64_in _ (by omega)
                  go_loopg [17, 19, 20, 89] M.gates.length (fun gg s17 _ _ s89 wr => ∃ (j next : Nat) (to : Int → Option Int) (out : List PGate) (vo : Value), j ≤ M.gates.length ∧ M.gates.length - j ≤ gg ∧ s89 = .int .i64 j ∧ s17 = .int .i64 next ∧ next ≤ 65536 ∧
                    KeepX wL.heap.size (fun q => q = b15 ∨ q = r) 0 wL wr ∧ IntMap wr r (toV to) ∧ Aside (ToB to) ∧ wr.heap[b15]? = some (.cells #[.slice Ao nP co, vo, .int .i64 0] 25 (0, 0)) ∧ StayAt wr wL.heap.size vo out ∧ out.length ≤ j ∧
                    Rem (compGo (usedG (preS N) N.gates) 0 noTo [] M.gates) (compGo (usedG (preS N) N.gates) next to out (M.gates.drop j)))
                  case atStart => exact ⟨0, 0, noTo, [], .slice none 0 0, Nat.zero_le _, by omega, rfl, rfl, by omega, KeepX.refl _ _ _ _, hML, (fun _ _ h => by cases h), r15, StayAt.nil _ _, Nat.le_refl _, ⟨rfl⟩⟩
                  case round =>
                    obtain ⟨j, next, to, out, vo, hj, hgj, rfl, rfl, hnx, hK, hM, hTB, r15r, hS, hol, HA⟩ := hrel
                    have hks := hK.size
                    have oK : ∀ q, q < wL.heap.size → q ≠ b15 → q ≠ r → wr.heap[q]? = wL.heap[q]? := fun q h1 h2 h3 => hK.block q h1 (fun h => by
                      rcases h with (h | h) | ⟨h, _⟩
                      · exact h2 h
                      · exact h3 h
                      · omega)
                    have hBr : Below w.heap.size w wr := hK.toBelow hB0L hB0L.size (fun q h => by omega)
                    have hXr := hXL.keep (W' := wr) (fun q h1 h2 => oK q (by omega) (by omega) (by omega))
                    have hS8 := hSL.heap (oK b8 (by omega) (by omega) (by omega))
                    have hdr := (oK D (by omega) (by omega) (by omega)).trans hdL
                    have r13r := (oK (r + 1) (by omega) (by omega) (by omega)).trans r13L
                    have r14r := (oK (r + 1 + 1) (by omega) (by omega) (by omega)).trans r14L
                    by_cases hlt : j < M.gates.length
                    · obtain ⟨g, hgx, hgm, hgd⟩ := nth hlt
                      obtain ⟨bg, offg, vi, eA, hc0, hc1, hc2, hi, h64, hkd0, hkd1⟩ := (hgt'.keep (keeps_below hBr)).at_ j g hgx
                      subst eA
                      obtain ⟨Ai, ci, rfl, hli, hci⟩ := hi.form
                      have hltz : (j : Int) < (M.gates.length : Int) := by omega
                      have HD := hid hgd
                      obtain ⟨wN, hwN, hcN, -, hzN, hBN, hrN⟩ := new_block wr #[.int .i64 g.var, .int .u8 g.kind, .slice Ai g.ins.length ci] 70
                      have x0 : wN.cell? ⟨wr.heap.size, 0, none⟩ = some (.int .i64 g.var) := hcN 0 _ rfl
                      have x1 : wN.cell? ⟨wr.heap.size, 1, none⟩ = some (.int .u8 g.kind) := hcN 1 _ rfl
                      have x2 : wN.cell? ⟨wr.heap.size, 2, none⟩ = some (.slice Ai g.ins.length ci) := hcN 2 _ rfl
                      have hS8N := hS8.below hBN
                      obtain ⟨p, hpn⟩ : ∃ p, next + 1 = p := ⟨_, rfl⟩
                      have hwn : IntKind.i64.wrap ((next : Int) + 1) = (p : Int) := by rw [hcv next hnx]; omega
                      have hp2 : p ≤ 65537 := by omega
                      have HNX := hid hnx
                      obtain ⟨Aw, nw, hsl, CI⟩ := slice_free b8 p (usedG (preS N) N.gates) hp2
                      have CI' := CI wN hS8N
                      have HIX := hid hgx
                      obtain ⟨f, hf⟩ : ∃ f, freeI (usedG (preS N) N.gates) p = f := ⟨_, rfl⟩
                      rw [hf] at CI'
                      have HFF := hid hf
                      clear hgx hgd hcN hnx hcv CI hf hp2
                      have hBrN := below_then hBr hBr.size hBN
                      by_cases hfn : f < 0
                      · have hXN := hXr.below hBN
                        have hdN := row_below hdr hBN
                        obtain ⟨⟨f0, c0, f1, c1, f2, c2, f3, c3⟩, ra, rb, rk⟩ := put4 hXN.2.2.2.1 hXN.2.2.2.2 (by omega) (.slice none 0 0) (.slice none 0 0) (.int .i64 0) (.int .i64 3)
                        have e : composeP N k M = (noNet, 3) := by
                          rw [HR.out, HA.out, HD.out, compGo, hpn, HFF.out, if_pos hfn]
                        have HE := hid e
                        clear e
                        go_wp2_with (go_at_call 62; refine CI'.mono ?_; rintro e wO ⟨rfl, rfl⟩)
                        exact comp_err4 rfl hXN hBrN 3 HE.out hdN hDD rfl rfl
                      · obtain ⟨q, hq1, hq2', hq3⟩ := freeI_nn (S := usedG (preS N) N.gates) (o := p) (by rw [HFF.out]; exact hfn)
                        obtain rfl : f = (q : Int) := by rw [← HFF.out]; exact hq1
                        have hfd : decide ((q : Int) < 0) = false := decide_eq_false hfn
                        have hw1 : IntKind.i64.wrap ((q : Int) + 1) = (q : Int) + 1 := IntWalk.i64_in _ (by omega)
                        obtain ⟨x, hx⟩ : ∃ x : Nat, next + q + 1 = x := ⟨_, rfl⟩
                        have hw2 : IntKind.i64.wrap ((next : Int) + ((q : Int) + 1)) = (x : Int) := by rw [IntWalk.i64_in _ (by omega)]; omega
                        have hxr : x ≤ 65536 := by omega
                        obtain ⟨-, hgv1, hgv2⟩ := mayP_gates HMM.out g hgm
                        have hgl := lit_le hgm
                        have CA := addG_any (r + 1 + 1) (r + 1) b15 r to (x : Int) g (.slice Ai g.ins.length ci) (.slice Ao nP co) 0 wL.heap.size out vo wN (hi.keep (keeps_below hBN)) ⟨hkd0, hkd1⟩ (by unfold I64; omega) (by have := HLM.out; omega) (by omega)
                          (cell_row (row_below r14r hBN) rfl) (cell_row (row_below r13r hBN) rfl) (hM.below hBN) hTB (fun l hl => by have := absN_pos (HLT.out.1 g hgm l hl); exact ⟨this.1, this.2.1⟩)
                          (row_below r15r hBN) (by omega) (hS.below hBN) (by omega)
                        have HFN := hid hfn
                        have hvo : ∀ b, b < wL.heap.size → vo.ownBlock ≠ some b := fun b hb e => by
                          obtain ⟨xs, hxs⟩ := hS.row
                          have := (hxs.lt b e).1; omega
                        have hvo2 : ∀ b, wr.heap.size ≤ b → vo.ownBlock ≠ some b := fun b hb e => by
                          obtain ⟨xs, hxs⟩ := hS.row
                          have := (hxs.lt b e).2; omega
                        clear hfn hq1 hq2' hq3
                        go_wp2_with (first | (go_at_call 62; refine CI'.mono ?_; rintro e wO ⟨rfl, rfl⟩) | (go_at_call 61; refine CA.mono ?_; rintro e wP ⟨rfl, vo', hP1, hP2, hP3, hP4, hP5, hP6, hP7⟩; have r13P := (hP7 (r + 1) (by omega) (by omega) (hvo (r + 1) (by omega))).trans (row_below r13r hBN); have c13P := cell_row r13P (j := 0) (v := .map (some r)) rfl; have gP := (hP7 wr.heap.size (by omega) (by omega) (hvo2 _ (Nat.le_refl _))).trans hrN; have gcP := cell_row gP (j := 0) (v := .int .i64 g.var) rfl; have hMP : IntMap wP r (toV to) := (hM.below hBN).heap (hP7 r (by omega) (by omega) (hvo r (by omega))); obtain ⟨wQ, hup, hMQ, hGQ⟩ := run_update (w := wP) Try.underlying101 Try.underlying3 hMP g.var (.int .i64 (x : Int))))
                        go_roundg (M.gates.length - (j + 1))
                        case measure => omega
                        case rel =>
                          have hqs := hGQ.size
                          refine ⟨j + 1, x, updO to g.var x, out ++ [nameG to x g], vo', by omega, by omega, by go_num, by go_num, hxr, ?_, ?_, ?_, row_grown hP1 hGQ (by intro e; injection e with e; omega), hP2.grown hGQ (fun r' e => by injection e with e; omega), by simp; omega, ⟨?_⟩⟩
                          · refine ⟨hGQ.os.trans (hP4.trans (hBN.os.trans hK.os)), hGQ.tape.trans (hP5.trans (hBN.tape.trans hK.tape)), hGQ.output.trans (hP6.trans (hBN.output.trans hK.output)), by omega, fun q' h1 h2 => ?_⟩
                            have n1 : q' ≠ b15 := fun e => h2 (.inl (.inl e))
                            have n2 : q' ≠ r := fun e => h2 (.inl (.inr e))
                            exact (hGQ.block q' (by omega) (by intro e; injection e with e; exact n2 e)).trans ((hP7 q' (by omega) n1 (hvo q' (by omega))).trans ((hBN.block q' (by omega)).trans (hK.block q' h1 h2)))
                          · have e : (fun k' => if k' = g.var then some (Value.int .i64 (x : Int)) else toV to k') = toV (updO to g.var x) := by
                              funext k'; unfold toV updO; split <;> rfl
                            rw [← e]; exact hMQ
                          · intro k' y' hy'
                            unfold updO at hy'
                            split at hy'
                            · injection hy' with hy'; omega
                            · exact hTB k' y' hy'
                          · rw [HA.out, HD.out, compGo, hpn, HFF.out, if_neg (by have := HFN.out; omega)]
                            have e1 : next + ((q : Nat) : Int).toNat + 1 = x := by omega
                            have e2 : (next : Int) + ((q : Nat) : Int) + 1 = (x : Int) := by omega
                            rw [e1, e2]
                    · have hltz : ¬ (j : Int) < (M.gates.length : Int) := by omega
                      have hC : composeP N k M = (compEnd N k M (out, to), 0) := by
                        rw [HR.out, HA.out, List.drop_eq_nil_of_le (by omega)]; rfl
                      have HC := hid hC
                      clear hC hcv hlt
                      obtain ⟨n0, n1, n2, nv, m0, m1, m2⟩ := hXr.cells
                      have c14 := cell_row r14r (j := 0) (v := .func (.func 58) #[] #[.pointer (some ⟨r + 1, 0, none⟩)]) rfl
                      have HS := hid hS
                      have HMM' := hid hM
                      have HTB := hid hTB
                      obtain ⟨y, hy⟩ : ∃ y, nameP to M.out = y := ⟨_, rfl⟩
                      have HY := hid hy
                      have CN : ∀ W, (∀ q, q < wr.heap.size → W.heap[q]? = wr.heap[q]?) → Calls Try.prog 58 #[.int .i64 M.out, .pointer (some ⟨r + 1, 0, none⟩)] W fun e w' => e = .returned (.int .i64 y) ∧ ∃ n, w' = W.drewN n := fun W hW => by
                        rw [← hy]
                        exact name_any (r + 1) r to M.out W ((World.cell?_of_block (hW (r + 1) (by omega))).trans (cell_row r13r rfl)) (hM.heap (hW r (by omega))) HTB.out
                      have KS : ∀ W, KeepX wr.heap.size (fun q => q = r + 1) 0 wr W → (KeepX wr.heap.size (fun q => q = r + 1) 0 wr W ∧ W.cell? ⟨w.heap.size + 1, 0, none⟩ = some (.int .i64 (k : Int)) ∧ W.cell? ⟨r + 1 + 1, 0, none⟩ = some (.func (.func 58) #[] #[.pointer (some ⟨r + 1, 0, none⟩)]) ∧ W.cell? ⟨w.heap.size + 1 + 1, 2, none⟩ = some (.int .i64 M.out)) := fun W hW => by
                        have nx : ∀ q, q < wr.heap.size → q ≠ r + 1 → ¬ XB wr.heap.size (fun q => q = r + 1) 0 wr q := fun q h1 h2 h => by
                          rcases h with h | ⟨h, _⟩
                          · exact h2 h
                          · omega
                        exact ⟨hW, hW.cell nv (nx _ (by show w.heap.size + 1 < _; omega) (by show w.heap.size + 1 ≠ _; omega)), hW.cell c14 (nx _ (by show r + 1 + 1 < _; omega) (by show r + 1 + 1 ≠ _; omega)), hW.cell m2 (nx _ (by show w.heap.size + 1 + 1 < _; omega) (by show w.heap.size + 1 + 1 ≠ _; omega))⟩
                      have kx0 : KeepX wr.heap.size (fun q => q = r + 1) 0 wr wr.drew := ⟨rfl, rfl, rfl, Nat.le_refl _, fun _ _ _ => rfl⟩
                      have kxA1 : KeepX wr.heap.size (fun q => q = r + 1) 0 wr (wr.drew.alloc (.map #[] 0)) := kx0.grown (World.grownBy_alloc _ _ none) (fun r e => by cases e)
                      have kxD0 : ∀ n, KeepX wr.heap.size (fun q => q = r + 1) 0 wr (wr.drewN n) := fun n => ⟨rfl, rfl, rfl, Nat.le_refl _, fun _ _ _ => rfl⟩
                      have kxAl : KeepX wr.heap.size (fun q => q = r + 1) 0 wr (wr.alloc (.map #[] 0)) := (KeepX.refl _ _ _ _).grown (World.grownBy_alloc _ _ none) (fun r e => by cases e)
                      have kxD : ∀ n, KeepX wr.heap.size (fun q => q = r + 1) 0 wr ((wr.alloc (.map #[] 0)).drewN n) := fun n => ⟨kxAl.os, kxAl.tape, kxAl.output, kxAl.size, kxAl.block⟩
                      have hmm := @run_makeMap Try.prog
                      clear hy hM hS
                      go_wp2_with fail
                      refine (fun (H : BoxP ?G2) => ?main2) (BoxP.mk ?key2)
                      case main2 =>
                        go_region_held3 (fun w' => KeepX wr.heap.size (fun q => q = r + 1) 0 wr w' ∧ w'.cell? ⟨w.heap.size + 1, 0, none⟩ = some (.int .i64 (k : Int)) ∧ w'.cell? ⟨r + 1 + 1, 0, none⟩ = some (.func (.func 58) #[] #[.pointer (some ⟨r + 1, 0, none⟩)]) ∧ w'.cell? ⟨w.heap.size + 1 + 1, 2, none⟩ = some (.int .i64 M.out)) (first | exact KS _ kx0 | exact KS _ kxA1 | exact KS _ (kxD _) | exact KS _ (kxD0 _) | exact KS _ (by assumption))
                          (first | (go_at_call 58; refine (CN _ (by first | exact fun _ _ => rfl | exact fun q hq => Below.heap_alloc _ _ _ hq)).mono ?_; rintro e w' ⟨rfl, n, rfl⟩; obtain ⟨wQ, hup, hMQ, hGQ⟩ := run_update (P := Try.prog) (w := (wr.alloc (.map #[] 0)).drewN (1 + n)) (r := wr.heap.size) Try.underlying101 Try.underlying3 ((IntMap.new wr).heap rfl) (k : Int) (.int .i64 y); have kxQ := (kxD (1 + n)).grown hGQ (fun r' e => by injection e with e; exact .inr (by omega)); have rQ : wQ.heap[r + 1]? = some (.cells #[.map (some r)] 101 (0, 0)) := row_grown (show ((wr.alloc (.map #[] 0)).drewN (1 + n)).heap[r + 1]? = _ from (Below.heap_alloc _ _ _ (by omega)).trans r13r) hGQ (by intro e; injection e with e; omega); have cQ := cell_row rQ (j := 0) (v := .map (some r)) rfl; have fQ := frozen_of_row _ (r + 1) 0 _ _ rQ; have kxS := kxQ.set ⟨r + 1, 0, none⟩ (.map (some wr.heap.size)) rfl; have kxB := (kxD0 (1 + n)).grown (World.grownBy_alloc (wr.drewN (1 + n)) (.map #[] 0) none) (fun r e => by cases e); obtain ⟨wQ2, hup2, hMQ2, hGQ2⟩ := run_update (P := Try.prog) (w := (wr.drewN (1 + n)).alloc (.map #[] 0)) (r := wr.heap.size) Try.underlying101 Try.underlying3 (IntMap.new (wr.drewN (1 + n))) (k : Int) (.int .i64 y); have kxQ2 := kxB.grown hGQ2 (fun r' e => by injection e with e; exact .inr (by omega)); have rQ2 : wQ2.heap[r + 1]? = some (.cells #[.map (some r)] 101 (0, 0)) := row_grown (show ((wr.drewN (1 + n)).alloc (.map #[] 0)).heap[r + 1]? = _ from (Below.heap_alloc (wr.drewN (1 + n)) _ _ (show r + 1 < wr.heap.size by omega)).trans r13r) hGQ2 (by intro e; injection e with e; omega); have cQ2 := cell_row rQ2 (j := 0) (v := .map (some r)) rfl; have fQ2 := frozen_of_row _ (r + 1) 0 _ _ rQ2; have kxS2 := kxQ2.set ⟨r + 1, 0, none⟩ (.map (some wr.heap.size)) rfl))
                        · have T2 := row_set rQ (i := 0) (.map (some wr.heap.size))
                          have T3 := hMQ.kept (grown_setCell wQ ⟨r + 1, 0, none⟩ (.map (some wr.heap.size))) (by intro e; injection e with e; have e' : r + 1 = wr.heap.size := e; omega)
                          obtain ⟨WT, hWT⟩ : ∃ WT, wQ.setCell ⟨r + 1, 0, none⟩ (.map (some wr.heap.size)) = WT := ⟨_, rfl⟩
                          rw [hWT] at T2 T3 kxS ⊢
                          have PP := And.intro kxS (And.intro T2 T3)
                          clear hWT T2 T3 kxS
                          revert PP
                          revert WT
                          exact H.out
                        · have T2 := row_set rQ2 (i := 0) (.map (some wr.heap.size))
                          have T3 := hMQ2.kept (grown_setCell wQ2 ⟨r + 1, 0, none⟩ (.map (some wr.heap.size))) (by intro e; injection e with e; have e' : r + 1 = wr.heap.size := e; omega)
                          obtain ⟨WT, hWT⟩ : ∃ WT, wQ2.setCell ⟨r + 1, 0, none⟩ (.map (some wr.heap.size)) = WT := ⟨_, rfl⟩
                          rw [hWT] at T2 T3 kxS2 ⊢
                          have PP := And.intro kxS2 (And.intro T2 T3)
                          clear hWT T2 T3 kxS2
                          revert PP
                          revert WT
                          exact H.out
                      case key2 =>
                        clear kx0 kxA1 kxAl kxD0 kxD hmm KS CN
                        rintro WT ⟨T1, T2, T3⟩
                        have T2' : WT.heap[r + 1]? = some (.cells #[.map (some wr.heap.size)] 101 (0, 0)) := T2
                        obtain ⟨V, rfl⟩ : ∃ V, V = wr := ⟨_, rfl⟩
                        have T3' : IntMap WT V.heap.size (toV (updO noTo k y)) := by
                          have e : (fun k' : Int => if k' = (k : Int) then some (Value.int .i64 y) else none) = toV (updO noTo k y) := by
                            funext k'; unfold toV updO noTo; split <;> rfl
                          rw [← e]; exact T3
                        have tV : ∀ q, q < V.heap.size → q ≠ r + 1 → WT.heap[q]? = V.heap[q]? := fun q h1 h2 => T1.block q h1 (fun h => by
                          rcases h with h | ⟨h, _⟩
                          · exact h2 h
                          · omega)
                        have tsz := T1.size
                        have hyr : -65536 ≤ y ∧ y ≤ 65536 := by
                          have hmo := absN_pos HLT.out.2
                          rw [← HY.out]
                          unfold nameP
                          cases hq : to (absI M.out) with
                          | none => simp only; omega
                          | some z => have := HTB.out _ _ hq; simp only; split <;> omega
                        have hTB2 : ToB (updO noTo k y) := fun k' z hz => by
                          unfold updO noTo at hz
                          split at hz
                          · injection hz with hz; omega
                          · cases hz
                        have hBT : Below w.heap.size w WT := T1.toBelow hBr hBr.size (fun q h => by omega)
                        have hXT := hXr.keep (W' := WT) (fun q h1 h2 => tV q (by omega) (by omega))
                        have hdT := (tV D (by omega) (by omega)).trans hdr
                        have r14T := (tV (r + 1 + 1) (by omega) (by omega)).trans r14r
                        have r15T := (tV b15 (by omega) (by omega)).trans r15r
                        have hST : StayAt WT wL.heap.size vo out := HS.out.keep tsz (fun q h1 h2 => tV q h2 (by omega))
                        obtain ⟨-, n1, -, -, -, -, -⟩ := hXT.cells
                        clear T1 T2 T3 n0 n2 nv m0 m1 m2 c14 hXr hdr r14r r13r r15r hBr HMM'
                        go_wp2_with fail
                        go_loopg [22, 123] N.gates.length (fun gg _ s123 wr => ∃ (j2 : Nat) (vo : Value), j2 ≤ N.gates.length ∧ N.gates.length - j2 ≤ gg ∧ s123 = .int .i64 j2 ∧
                          KeepX wL.heap.size (fun q => q = b15) 70 WT wr ∧ wr.heap[b15]? = some (.cells #[.slice Ao nP co, vo, .int .i64 0] 25 (0, 0)) ∧ StayAt wr wL.heap.size vo (out ++ (N.gates.take j2).map (fun g => nameG (updO noTo k y) g.var g)))
                        case atStart => exact ⟨0, vo, Nat.zero_le _, by omega, rfl, KeepX.refl _ _ _ _, r15T, by simpa using hST⟩
                        case round =>
                          have HOK := hid oK
                          clear hS8 oK hK
                          obtain ⟨j2, vo2, hj2, hgj2, rfl, hK2, r15w, hS2⟩ := hrel
                          have oK2 : ∀ q, q < wL.heap.size → q ≠ b15 → wr.heap[q]? = WT.heap[q]? := fun q h1 h2 => hK2.block q (by omega) (fun h => by
                            rcases h with h | ⟨h, _⟩
                            · exact h2 h
                            · omega)
                          have hks2 := hK2.size
                          have hBr2 : Below w.heap.size w wr := hK2.toBelow hBT (by omega) (fun q h => by omega)
                          have hXr2 := hXT.keep (W' := wr) (fun q h1 h2 => oK2 q (by omega) (by omega))
                          have hdr2 := (oK2 D (by omega) (by omega)).trans hdT
                          have r13w := (oK2 (r + 1) (by omega) (by omega)).trans T2'
                          have r14w := (oK2 (r + 1 + 1) (by omega) (by omega)).trans r14T
                          have hMw : IntMap wr V.heap.size (toV (updO noTo k y)) := T3'.heap (hK2.block V.heap.size (by have := T3'.lt; omega) (fun h => by
                            rcases h with h | ⟨_, cs', fr', h⟩
                            · omega
                            · obtain ⟨es, cl, h', _⟩ := T3'
                              rw [h'] at h; cases h))
                          by_cases hlt2 : j2 < N.gates.length
                          · obtain ⟨g, hgx, hgm, hgd⟩ := nth hlt2
                            obtain ⟨bg, offg, vi, eA, hc0, hc1, hc2, hi, h64, hkd0, hkd1⟩ := (hgt.keep (keeps_below hBr2)).at_ j2 g hgx
                            subst eA
                            obtain ⟨Ai, ci, rfl, hli, hci⟩ := hi.form
                            have hltz : (j2 : Int) < (N.gates.length : Int) := by omega
                            obtain ⟨wN, hwN, hcN, -, hzN, hBN, hrN⟩ := new_block wr #[.int .i64 g.var, .int .u8 g.kind, .slice Ai g.ins.length ci] 70
                            have x0 : wN.cell? ⟨wr.heap.size, 0, none⟩ = some (.int .i64 g.var) := hcN 0 _ rfl
                            have x1 : wN.cell? ⟨wr.heap.size, 1, none⟩ = some (.int .u8 g.kind) := hcN 1 _ rfl
                            have x2 : wN.cell? ⟨wr.heap.size, 2, none⟩ = some (.slice Ai g.ins.length ci) := hcN 2 _ rfl
                            have hgl := lit_le hgm
                            have hlo : (out ++ (N.gates.take j2).map (fun g => nameG (updO noTo k y) g.var g)).length ≤ 1000000 := by simp; omega
                            have CA := addG_any (r + 1 + 1) (r + 1) b15 V.heap.size (updO noTo k y) g.var g (.slice Ai g.ins.length ci) (.slice Ao nP co) 0 wL.heap.size _ vo2 wN (hi.keep (keeps_below hBN)) ⟨hkd0, hkd1⟩ h64 (by have := HLN.out; omega) hlo
                              (cell_row (row_below r14w hBN) rfl) (cell_row (row_below r13w hBN) rfl) (hMw.below hBN) hTB2 (fun l hl => by have := absN_pos (HLTN.out.1 g hgm l hl); exact ⟨this.1, this.2.1⟩)
                              (row_below r15w hBN) (by omega) (hS2.below hBN) (by omega)
                            have HGX := hid hgx
                            clear hgx hgd hcN
                            go_wp2_with (go_at_call 61; refine CA.mono ?_; rintro e wP ⟨rfl, vo', hP1, hP2, hP3, hP4, hP5, hP6, hP7⟩)
                            go_roundg (N.gates.length - (j2 + 1))
                            case measure => omega
                            case rel =>
                              refine ⟨j2 + 1, vo', by omega, by omega, by go_num, ⟨hP4.trans (hBN.os.trans hK2.os), hP5.trans (hBN.tape.trans hK2.tape), hP6.trans (hBN.output.trans hK2.output), by omega, fun q' h1 h2 => ?_⟩, hP1, ?_⟩
                              · have hown : vo2.ownBlock ≠ some q' := fun e => by
                                  obtain ⟨xs, hxs⟩ := hS2.row
                                  obtain ⟨cs', fr', hc⟩ := own_cells hxs e
                                  have hb := (hxs.lt q' e).1
                                  rw [hK2.block q' h1 h2] at hc
                                  exact h2 (.inr ⟨hb, cs', fr', hc⟩)
                                exact (hP7 q' (by omega) (fun e => h2 (.inl e)) hown).trans ((hBN.block q' (by omega)).trans (hK2.block q' h1 h2))
                              · rw [take_snoc HGX.out, List.map_append, ← List.append_assoc]; exact hP2
                          · have hltz : ¬ (j2 : Int) < (N.gates.length : Int) := by omega
                            rw [List.take_of_length_le (by omega : N.gates.length ≤ j2)] at hS2
                            obtain ⟨Av, cv, rfl, hcv1, hcv2⟩ := hS2.form
                            obtain ⟨n0, n1', n2, nv, m0, m1, m2⟩ := hXr2.cells
                            have c14 := cell_row r14w (j := 0) (v := .func (.func 58) #[] #[.pointer (some ⟨r + 1, 0, none⟩)]) rfl
                            have CN := name_any (r + 1) V.heap.size (updO noTo k y) N.out wr (cell_row r13w rfl) hMw hTB2
                            obtain ⟨z, hz⟩ : ∃ z, nameP (updO noTo k y) N.out = z := ⟨_, rfl⟩
                            rw [hz] at CN
                            have HZ := hid hz
                            obtain ⟨gs, hgs⟩ : ∃ gs, out ++ N.gates.map (fun g => nameG (updO noTo k y) g.var g) = gs := ⟨_, rfl⟩
                            rw [hgs] at hS2 hcv1 r15w
                            have HGS := hid hgs
                            have HS2 := hid hS2
                            clear hz hgs hS2 n0 n1' nv m0 m1 m2 hlt2
                            go_wp2_with fail
                            refine CN.mono ?_
                            rintro e wP ⟨rfl, nq2, rfl⟩
                            have r15p : (wr.drewN nq2).heap[b15]? = some (.cells #[.slice Ao nP co, .slice Av gs.length cv, .int .i64 0] 25 (0, 0)) := r15w
                            have p2 := cell_row r15p (j := 2) (v := .int .i64 0) rfl
                            have pf2 := frozen_of_row _ b15 2 _ _ r15p
                            have rV : ((wr.drewN nq2).setCell ⟨b15, 2, none⟩ (.int .i64 z)).heap[b15]? = some (.cells #[.slice Ao nP co, .slice Av gs.length cv, .int .i64 z] 25 (0, 0)) := row_set r15p _
                            have gV := grown_setCell (wr.drewN nq2) ⟨b15, 2, none⟩ (.int .i64 z)
                            have hXV := hXr2.keep (W' := (wr.drewN nq2).setCell ⟨b15, 2, none⟩ (.int .i64 z)) (fun q h1 h2 => gV.block q (show q < wr.heap.size by omega) (by intro e; injection e with e; have e' : q = b15 := e; omega))
                            have v0 := cell_row rV (j := 0) (v := .slice Ao nP co) rfl
                            have v1 := cell_row rV (j := 1) (v := .slice Av gs.length cv) rfl
                            have v2 := cell_row rV (j := 2) (v := .int .i64 z) rfl
                            obtain ⟨⟨f0, c0, f1, c1, f2, c2, f3, c3⟩, ra, rb, rk⟩ := put4 hXV.2.2.2.1 hXV.2.2.2.2 (by omega) (.slice Ao nP co) (.slice Av gs.length cv) (.int .i64 z) (.int .i64 0)
                            have zV : ((wr.drewN nq2).setCell ⟨b15, 2, none⟩ (.int .i64 z)).heap.size = wr.heap.size := by simp [World.setCell, World.drewN]
                            go_wp2_with fail
                            revert ra rb rk
                            generalize (((((wr.drewN nq2).setCell ⟨b15, 2, none⟩ (.int .i64 z)).setCell ⟨w.heap.size + 1 + 1 + 1, 0, none⟩ (.slice Ao nP co)).setCell ⟨w.heap.size + 1 + 1 + 1, 1, none⟩ (.slice Av gs.length cv)).setCell ⟨w.heap.size + 1 + 1 + 1, 2, none⟩ (.int .i64 z)).setCell ⟨w.heap.size + 1 + 1 + 1 + 1, 0, none⟩ (.int .i64 0) = WY
                            intro ra rb rk
                            have zY := rk.size
                            have hll := hXL.lt
                            have oY : ∀ q, q < wr.heap.size → q ≠ b15 → q ≠ w.heap.size + 1 + 1 + 1 → q ≠ w.heap.size + 1 + 1 + 1 + 1 → WY.heap[q]? = wr.heap[q]? := fun q h1 h2 h3 h4 =>
                              (rk.block q (by omega) (fun h => by
                                rcases h with (h | h) | ⟨h, _⟩
                                · exact h3 h
                                · exact h4 h
                                · omega)).trans (gV.block q h1 (by intro e; injection e with e; exact h2 e))
                            have dY := (oY D (by omega) (by omega) (by omega) (by omega)).trans hdr2
                            have hBV : Below w.heap.size w ((wr.drewN nq2).setCell ⟨b15, 2, none⟩ (.int .i64 z)) := (below_drewN hBr2 nq2).grown gV (by show w.heap.size ≤ wr.heap.size; omega) (fun r' e => by injection e with e; have e' : b15 = r' := e; omega)
                            have hBY : Below w.heap.size w WY := rk.toBelow hBV (by omega) (fun q h => by omega)
                            have oF : ∀ q, q ≠ D → (WY.putObj D (.deferred none)).heap[q]? = WY.heap[q]? := fun q h => World.putObj_heap_other h
                            have zF : (WY.putObj D (.deferred none)).heap.size = WY.heap.size := by simp
                            refine comp_end rfl ra rb dY hDD rfl rfl ?_
                            rw [HC.out]
                            refine ⟨hBY.grown (grownBy_putObj' WY D (.deferred none)) (by omega) (fun r' e => by injection e with e; omega), _, rfl, fun wF hsF hkF => ?_⟩
                            have eE : compEnd N k M (out, to) = ⟨withoutP (upd noS k true) N.pre, gs, z⟩ := by
                              unfold compEnd
                              simp only
                              rw [HY.out, HGS.out, HZ.out, Int.toNat_natCast]
                            rw [eE]
                            have hzr : I64 z := by
                              have hno := absN_pos HLTN.out.2
                              rw [← HZ.out]
                              unfold nameP I64
                              cases hq : updO noTo (k : Int) y (absI N.out) with
                              | none => simp only; omega
                              | some z => have := hTB2 _ _ hq; simp only; split <;> omega
                            obtain ⟨zk1, zk2⟩ := HZK.out
                            refine ⟨.slice Ao nP co, .slice Av gs.length cv, rfl, hzr, ?_, ?_⟩
                            · refine blocks_of_out (hOL.keepB (by omega) (fun q h1 h2 => ?_)) (withoutP_rng (N := N) _ (fun y hy => by have := HPR.out.1 y hy; omega))
                              refine (hkF q (by omega) (by omega)).trans ((oF q (by omega)).trans ((oY q (by omega) (by omega) (by omega) (by omega)).trans ((oK2 q (by omega) (by omega)).trans ((tV q (by omega) (by omega)).trans ?_))))
                              refine (HOK.out q (by omega) (by omega) (by omega)).trans ?_
                              exact HBL.out.block q h2
                            · exact gates_of_stay (HS2.out.keep (by omega) (fun q h1 h2 => (hkF q (by omega) (by omega)).trans ((oF q (by omega)).trans (oY q h2 (by omega) (by omega) (by omega)))))
end Go.Proofs.Ytnlobmepajakcaa
