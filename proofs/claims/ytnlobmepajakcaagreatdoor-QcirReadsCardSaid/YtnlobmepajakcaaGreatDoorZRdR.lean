/- What Read of qcir returns; the condition: texts have at most 2^62 bytes. -/
import Derived.Test.YtnlobmepajakcaaGreatDoorZRdE
import Derived.Test.YtnlobmepajakcaaGreatDoorZOrdK
import Derived.Test.YtnlobmepajakcaaGreatDoorZQv
import Derived.Test.YtnlobmepajakcaaGreatDoorZRdX
import Derived.Scope
set_option linter.unusedVariables false
set_option linter.unusedSimpArgs false
namespace Go.Proofs.YtnlobmepajakcaaGreatDoor
open Go.RowKit Go.Shelf
attribute [local go_sem] Oper.semAt_some

/-- The reader in memory, whatever the heap's size. -/
structure RdrW (w : World) (n0 r : Nat) (R : RS) (no : Nat) : Prop where
  nine : 9 ≤ r
  lt : r < n0
  ok : RSok R no
  mem : ∃ pv gv av, RdAt w r pv gv av R ∧ ((R.done = false ∧ gv = .slice none 0 0 ∧ av = .slice none 0 0 ∧ R.gates = [] ∧ R.at_ = [] ∧ OutAt w n0 pv R.pre) ∨
    (R.done = true ∧ ∃ n1, n0 ≤ n1 ∧ n1 ≤ w.heap.size ∧ PreAt w n0 n1 pv R.pre ∧ GA w n1 gv av R.gates R.at_))
theorem RdrW.full {w : World} {n0 r : Nat} {R : RS} {no : Nat} (h : RdrW w n0 r R no) (hs : n0 ≤ w.heap.size) : Rdr w n0 r R no := ⟨h.nine, h.lt, hs, h.ok, h.mem⟩
theorem Rdr.w {w : World} {n0 r : Nat} {R : RS} {no : Nat} (h : Rdr w n0 r R no) : RdrW w n0 r R no := ⟨h.nine, h.lt, h.ok, h.mem⟩
theorem RdrW.keep {w w' : World} {n0 r : Nat} {R : RS} {no : Nat} (h : RdrW w n0 r R no) (hs : w.heap.size ≤ w'.heap.size) (hr : w'.heap[r]? = w.heap[r]?) (hk : ∀ k, n0 ≤ k → k < w.heap.size → w'.heap[k]? = w.heap[k]?) : RdrW w' n0 r R no := by
  refine ⟨h.nine, h.lt, h.ok, ?_⟩
  obtain ⟨pv, gv, av, h1, h2⟩ := h.mem
  refine ⟨pv, gv, av, h1.heap hr, ?_⟩
  rcases h2 with ⟨a1, a2, a3, a4, a5, a6⟩ | ⟨a1, n1, a2, a3, a4, a5⟩
  · exact .inl ⟨a1, a2, a3, a4, a5, a6.keepB hs hk⟩
  · exact .inr ⟨a1, n1, a2, Nat.le_trans a3 hs, a4.keep (fun k h1 h2 => hk k h1 (by omega)), a5.keep hs (fun k h1 h2 => hk k (by omega) h2)⟩
theorem RdrW.grown {w w' : World} {n0 r : Nat} {R : RS} {no : Nat} (h : RdrW w n0 r R no) {row : Option Nat} (hg : w.grownBy w' row) (hrow : ∀ k, row = some k → k < n0 ∧ k ≠ r) : RdrW w' n0 r R no := by
  obtain ⟨pv, gv, av, h1, -⟩ := h.mem
  exact h.keep hg.size (hg.block r h1.lt (fun e => (hrow r e.symm).2 rfl)) (fun k hk hk2 => hg.block k hk2 (fun e => by have := (hrow k e.symm).1; omega))
theorem Res3.net {z : Nat} {a0 a1 a2 x y : Value} {W : World} (h : Res3 z a0 a1 a2 x y W) (v0 v1 v2 : Value) : Res3 z v0 v1 v2 x y (((W.setCell ⟨z, 0, none⟩ v0).setCell ⟨z, 1, none⟩ v1).setCell ⟨z, 2, none⟩ v2) ∧ But3 z W (((W.setCell ⟨z, 0, none⟩ v0).setCell ⟨z, 1, none⟩ v1).setCell ⟨z, 2, none⟩ v2) := by
  obtain ⟨h0, h1, h2⟩ := h
  obtain ⟨f0, c0, f1, c1, f2, c2, r, g⟩ := put25 h0 v0 v1 v2
  exact ⟨⟨r, row_grown h1 g (by intro e; injection e with e; omega), row_grown h2 g (by intro e; injection e with e; omega)⟩, (But3.refl z W).grown g (fun k e => .inl (by injection e with e; exact e.symm))⟩
theorem Res3.line {z : Nat} {v0 v1 v2 x y : Value} {W : World} (h : Res3 z v0 v1 v2 x y W) (x' : Value) : Res3 z v0 v1 v2 x' y (W.setCell ⟨z + 1, 0, none⟩ x') := by
  have g := grown_setCell W ⟨z + 1, 0, none⟩ x'
  exact ⟨row_grown h.1 g (by intro e; injection e with e; have e' : z + 1 = z := e; omega), row_set h.2.1 (i := 0) x', row_grown h.2.2 g (by intro e; injection e with e; have e' : z + 1 = z + 2 := e; omega)⟩
theorem Res3.err {z : Nat} {v0 v1 v2 x y : Value} {W : World} (h : Res3 z v0 v1 v2 x y W) (y' : Value) : Res3 z v0 v1 v2 x y' (W.setCell ⟨z + 2, 0, none⟩ y') := by
  have g := grown_setCell W ⟨z + 2, 0, none⟩ y'
  exact ⟨row_grown h.1 g (by intro e; injection e with e; have e' : z + 2 = z := e; omega), row_grown h.2.1 g (by intro e; injection e with e; have e' : z + 2 = z + 1 := e; omega), row_set h.2.2 (i := 0) y'⟩
theorem But3.cell {z : Nat} {W W' : World} (h : But3 z W W') {a : Addr} {v : Value} (hv : W.cell? a = some v) (h0 : a.block ≠ z) (h1 : a.block ≠ z + 1) (h2 : a.block ≠ z + 2) : W'.cell? a = some v :=
  (World.cell?_of_block (h.block a.block (World.block_lt_of_cell? W a hv) h0 h1 h2)).trans hv
theorem addL_codes (R : RS) (no : Nat) (p : PLine) : (addL R no p).1 = 5 ∨ (addL R no p).1 = 2 ∨ (addL R no p).1 = 7 ∨ (addL R no p).1 = 3 ∨ (addL R no p).1 = 0 := by
  cases p with
  | bad => exact .inl rfl
  | gate v k l => unfold addL; simp only []; split; exact .inl rfl; split; exact .inr (.inl rfl); split; exact .inr (.inr (.inl rfl)); split; exact .inr (.inr (.inr (.inl rfl))); exact .inr (.inr (.inr (.inr rfl)))
  | out x => unfold addL; simp only []; split; exact .inl rfl; exact .inr (.inr (.inr (.inr rfl)))
  | block w l => unfold addL; simp only []; split; exact .inl rfl; split; exact .inr (.inr (.inl rfl)); split; exact .inr (.inr (.inr (.inl rfl))); exact .inr (.inr (.inr (.inr rfl)))
theorem rs0_ok (no : Nat) : RSok rs0 no := ⟨by decide, rfl, by decide, fun x hx => (by cases hx), Nat.zero_le _, Nat.zero_le _, rfl, fun g hg => (by cases hg), by decide⟩
/-- The reader between two lines. -/
def ReadI (w : World) (s : Bs) (n0 : Nat) (pre : List (Nat × Bs)) (W : World) : Prop :=
  ∃ R k, linesN scanL rs0 pre = ((0, 0), R) ∧ RdrW W n0 (w.heap.size + 1 + 1 + 1) R k ∧ (∀ rest, numbered 1 (splitNL s) = pre ++ rest → ∀ x ∈ rest, k ≤ x.1) ∧
    Res3 w.heap.size (.slice none 0 0) (.slice none 0 0) (.int .i64 0) (.int .i64 0) (.int .i64 0) W ∧ W.heap[w.heap.size + 1 + 1 + 1 + 1]? = some (.cells #[.pointer (some ⟨w.heap.size + 1 + 1 + 1, 0, none⟩)] 77 (0, 0)) ∧ Below w.heap.size w W
/-- The reader where a line was refused. -/
def ReadX (w : World) (s : Bs) (c : Code) (pre : List (Nat × Bs)) (W : World) : Prop :=
  c = .exit 0 ∧ ∃ (no : Nat) (e : Int), e ≠ 0 ∧ readP s = (noNet, no, e) ∧ I64 e ∧ Res3 w.heap.size (.slice none 0 0) (.slice none 0 0) (.int .i64 0) (.int .i64 (no : Int)) (.int .i64 e) W ∧ Below w.heap.size w W
theorem ReadI.grown {w : World} {s : Bs} {n0 : Nat} {pre : List (Nat × Bs)} {W W' : World} (h : ReadI w s n0 pre W) {row : Option Nat} (hg : W.grownBy W' row) (hrow : ∀ k, row = some k → k < n0 ∧ w.heap.size + 5 ≤ k) : ReadI w s n0 pre W' := by
  obtain ⟨R, k, h1, h2, h3, h4, h5, h6⟩ := h
  have hl5 := row_lt h5
  have hkp : ∀ k, k < w.heap.size + 5 → W'.heap[k]? = W.heap[k]? := fun k hk => hg.block k (by omega) (fun e => by have := (hrow k e.symm).2; omega)
  exact ⟨R, k, h1, h2.grown hg (fun k e => ⟨(hrow k e).1, by have := (hrow k e).2; omega⟩), h3, h4.heap (fun k _ hk => hkp k (by omega)), (hkp _ (by omega)).trans h5, h6.grown hg (by omega) (fun k e => by have := (hrow k e).2; omega)⟩
theorem ReadX.grown {w : World} {s : Bs} {c : Code} {pre : List (Nat × Bs)} {W W' : World} (h : ReadX w s c pre W) {row : Option Nat} (hg : W.grownBy W' row) (hrow : ∀ k, row = some k → w.heap.size + 5 ≤ k) : ReadX w s c pre W' := by
  obtain ⟨h0, no, e, h1, h2, h3, h4, h5⟩ := h
  have hl := row_lt h4.2.2
  exact ⟨h0, no, e, h1, h2, h3, h4.heap (fun k _ hk => hg.block k (by omega) (fun e => by have := hrow k e.symm; omega)), h5.grown hg (by omega) (fun k e => by have := hrow k e; omega)⟩
theorem readPost_err {w W : World} {z : Nat} (hz : z = w.heap.size) (hB : Below w.heap.size w W) {W' : World} (h3 : But3 z W W') {res : PNet × Nat × Int} {line : Nat} {c : Int} (hr : res = (noNet, line, c)) :
    ReadPost w res (.returned (.tuple #[.agg #[.slice none 0 0, .slice none 0 0, .int .i64 0], .int .i64 (line : Int), .int .i64 c])) W' := by
  rw [hr]
  exact ⟨hB.trans (h3.below (by omega) hB.size), _, rfl, net_no _⟩
theorem postM_ret {fn : Func} {R : Ending → World → Prop} {tmps : Array Value} {w : World} {v : Value} (hr : (results fn tmps).run Tryz.prog w = .ok v w) (h : R (.returned v) w) : bodyPostM Fence.wide 0 Tryz.prog fn R .ret { tmps := tmps, defers := [] } w := ⟨v, hr, h⟩
theorem read_end {w W4 : World} {D : Nat} {v0 v1 v2 x y : Value} {res : PNet × Nat × Int} (hr : Res3 w.heap.size v0 v1 v2 x y W4) (hD : W4.heap[D]? = some (.deferred (some []))) (hd1 : w.heap.size + 3 ≤ D) {tmps : Array Value}
    (hp : tmps.getD 2 undef = .pointer (some ⟨w.heap.size, 0, none⟩)) (hq : tmps.getD 3 undef = .pointer (some ⟨w.heap.size + 1, 0, none⟩)) (hu : tmps.getD 4 undef = .pointer (some ⟨w.heap.size + 2, 0, none⟩))
    (h : ReadPost w res (.returned (.tuple #[.agg #[v0, v1, v2], x, y])) (W4.putObj D (.deferred none))) :
    bodyPostM Fence.wide 0 Tryz.prog Tryz.f17 (ReadPost w res) .ret { tmps := tmps, defers := [{ target := .collected D, args := #[] }] } W4 :=
  ⟨by simp, .inl ⟨_, _, rfl, run_takeDeferred hD, ⟨_, results3 rfl tmps _ _ (hr.heap (fun k _ hk => World.putObj_heap_other (by omega))) hp hq hu, h⟩⟩⟩
theorem read_end_err {w W W4 : World} {D : Nat} {line : Nat} {c : Int} {res : PNet × Nat × Int} (hB : Below w.heap.size w W) (h3 : But3 w.heap.size W W4) (hr : Res3 w.heap.size (.slice none 0 0) (.slice none 0 0) (.int .i64 0) (.int .i64 (line : Int)) (.int .i64 c) W4)
    (hD : W.heap[D]? = some (.deferred (some []))) (hd1 : w.heap.size + 3 ≤ D) {tmps : Array Value}
    (hp : tmps.getD 2 undef = .pointer (some ⟨w.heap.size, 0, none⟩)) (hq : tmps.getD 3 undef = .pointer (some ⟨w.heap.size + 1, 0, none⟩)) (hu : tmps.getD 4 undef = .pointer (some ⟨w.heap.size + 2, 0, none⟩)) (hres : res = (noNet, line, c)) :
    bodyPostM Fence.wide 0 Tryz.prog Tryz.f17 (ReadPost w res) .ret { tmps := tmps, defers := [{ target := .collected D, args := #[] }] } W4 := by
  have hl := row_lt hD
  refine read_end hr ((h3.block D hl (by omega) (by omega) (by omega)).trans hD) hd1 hp hq hu ?_
  rw [hres]
  have hBW : Below w.heap.size w W4 := hB.trans (h3.below (Nat.le_refl _) hB.size)
  exact ⟨hBW.grown (grownBy_putObj' W4 D (.deferred none)) hBW.size (fun r e => by injection e with e; omega), _, rfl, net_no _⟩
theorem snap_gates {w : World} {n0 n1 : Nat} {gv av : Value} {gs : List PGate} {ns : List Nat} (h : GA w n1 gv av gs ns) (hn : n0 ≤ n1) : GatesAt (keepOnly (fun k => decide (n0 ≤ k)) w) gv gs :=
  gates_of_stay (h.stay.keep (by rw [keepOnly_size]; exact Nat.le_refl _) (fun k hk _ => keepOnly_same (by simp only [decide_eq_true_eq]; omega)))
theorem snap_keeps {w w' : World} {n0 : Nat} (h : ∀ k, n0 ≤ k → k < w.heap.size → w'.heap[k]? = w.heap[k]?) : Keeps (keepOnly (fun k => decide (n0 ≤ k)) w) w' := keeps_only (fun k h1 h2 => h k (by simpa using h1) h2)
theorem read_end_net {w W6 W8 w0 : World} {n0 n1 base : Nat} {pv v : Value} {p : List PBlock} {gs : List PGate} {out : Int} {res : PNet × Nat × Int} (hB6 : Below w.heap.size w W6) (b3 : But3 w.heap.size W6 W8)
    (rr : Res3 w.heap.size pv v (.int .i64 out) (.int .i64 0) (.int .i64 0) W8) (hdef : W6.heap[w.heap.size + 6]? = some (.deferred (some []))) (hn0 : w.heap.size + 8 ≤ n0) (hout : -65536 ≤ out ∧ out ≤ 65536)
    (hP : PreAt W6 n0 n1 pv p) (hn1 : n1 ≤ W6.heap.size) (hI : ∀ x ∈ p, ∀ y ∈ x.vars, I64 y) (hG : RowG w0 W6 base v gs) (hb : n0 ≤ base)
    (hk : ∀ W', (∀ k, n0 ≤ k → k < W6.heap.size → W'.heap[k]? = W6.heap[k]?) → Keeps w0 W') {tmps : Array Value}
    (hp : tmps.getD 2 undef = .pointer (some ⟨w.heap.size, 0, none⟩)) (hq : tmps.getD 3 undef = .pointer (some ⟨w.heap.size + 1, 0, none⟩)) (hu : tmps.getD 4 undef = .pointer (some ⟨w.heap.size + 2, 0, none⟩)) (hres : res = (⟨p, gs, out⟩, 0, 0)) :
    bodyPostM Fence.wide 0 Tryz.prog Tryz.f17 (ReadPost w res) .ret { tmps := tmps, defers := [{ target := .collected (w.heap.size + 6), args := #[] }] } W8 := by
  have hl := row_lt hdef
  refine read_end rr ((b3.block _ hl (by omega) (by omega) (by omega)).trans hdef) (by omega) hp hq hu ?_
  rw [hres]
  have hBW : Below w.heap.size w W8 := hB6.trans (b3.below (Nat.le_refl _) hB6.size)
  have g : W8.grownBy (W8.putObj (w.heap.size + 6) (.deferred none)) (some (w.heap.size + 6)) := grownBy_putObj' W8 (w.heap.size + 6) (.deferred none)
  have hBX := hBW.grown g hBW.size (fun r e => by injection e with e; omega)
  have hs8 := Nat.le_trans b3.size g.size
  have hK : ∀ k, n0 ≤ k → k < W6.heap.size → (W8.putObj (w.heap.size + 6) (.deferred none)).heap[k]? = W6.heap[k]? := fun k h1 h2 =>
    (g.block k (Nat.lt_of_lt_of_le h2 b3.size) (by intro e; injection e with e; omega)).trans (b3.block k h2 (by omega) (by omega) (by omega))
  generalize W8.putObj (w.heap.size + 6) (.deferred none) = WX at *
  refine ⟨hBX, _, rfl, _, _, rfl, ⟨by simp only []; omega, by simp only []; omega⟩, ?_, ?_⟩
  · exact blocks_of_out ((hP.keep (fun k h1 h2 => hK k h1 (by omega))).out (by omega)) hI
  · obtain ⟨es, g1, g2, g3⟩ := hG
    exact RowG.at ⟨es, g1, own_move g2 (fun b cs fr hb' hc => (hK b (by omega) (row_lt hc)).trans hc), g3⟩ (hk _ hK)
set_option maxRecDepth 100000 in
theorem lines_any (s : Bs) (w : World) : Calls Tryz.prog 40 #[.string ⟨s.toArray⟩] w fun e w' => e = .returned (.func (.func 77) #[] #[.pointer (some ⟨w.heap.size, 0, none⟩)]) ∧ w' = w.alloc (.cells #[sv s] 9) := by
  obtain ⟨w1, hw1⟩ : ∃ w1, w.alloc (.cells #[sv s] 9) = w1 := ⟨_, rfl⟩
  rw [hw1]
  unfold sv at hw1
  go_enter Tryz.func40, Tryz.ntmps40
  go_wp2_with fail
  go_ret
  exact ⟨rfl, rfl⟩
set_option maxRecDepth 100000 in
set_option maxHeartbeats 4000000 in
theorem Read_any (s : Bs) (w : World) (hE : Env w) (hl : s.length ≤ 4611686018427387904) : Calls Tryz.prog 17 #[.string ⟨s.toArray⟩] w (ReadPost w (readP s)) := by
  obtain ⟨w1, hw1, -, -, hz1, hB1, q1⟩ := new_block w #[.slice none 0 0, .slice none 0 0, .int .i64 0] 40
  obtain ⟨w2, hw2, -, -, hz2, hB2, q2⟩ := new_block w1 #[.int .i64 0] 3
  obtain ⟨w3, hw3, -, -, hz3, hB3, q3⟩ := new_block w2 #[.int .i64 0] 41
  rw [hz1] at hz2 q2
  rw [hz2] at hz3 q3
  have hB03 := below_then (below_then hB1 hB1.size hB2) (by omega) hB3
  have hR3 : Res3 w.heap.size (.slice none 0 0) (.slice none 0 0) (.int .i64 0) (.int .i64 0) (.int .i64 0) w3 := ⟨row_below (row_below q1 hB2) hB3, row_below q2 hB3, q3⟩
  clear q1 q2 q3 hB1 hB2 hB3
  refine callsIn_wide.1 (callsIn_of_wp_marks (n := 0) Tryz.func17 rfl trivial ?_ rfl)
  simp only [Tryz.ntmps17, List.size_toArray, List.length_cons, List.length_nil, Nat.reduceAdd, Nat.reduceSub, Array.replicate_succ, Array.replicate_zero, List.push_toArray, List.append_toArray, List.nil_append, List.cons_append]
  refine wpIn_wide.2 ?_
  by_cases hbig : 4194304 < s.length
  · have hRd : readP s = (noNet, 0, 3) := by unfold readP readW; rw [if_pos hbig]
    have HRD := hid hRd
    have hbi : (4194304 : Int) < (s.length : Int) := by omega
    obtain ⟨⟨f0, c0⟩, ⟨f1, c1⟩, ⟨f2, c2⟩, ⟨f3, c3⟩, ⟨f4, c4⟩, rr, b3⟩ := put3 hR3 (.slice none 0 0) (.slice none 0 0) (.int .i64 0) (.int .i64 0) (.int .i64 3)
    clear hRd hbig
    go_wp2_with fail
    refine wp_scope_straight ?_
    go_wp2_with fail
    exact postM_ret (results3 rfl _ _ w.heap.size rr rfl rfl rfl) (readPost_err rfl hB03 b3 HRD.out)
  · have hRd : readP s = doneR (linesP scanL rs0 1 (splitNL s)) := by unfold readP readW; rw [if_neg hbig]
    have HRD := hid hRd
    have hbi : ¬ (4194304 : Int) < (s.length : Int) := by omega
    have hbd : decide ((4194304 : Int) < (s.length : Int)) = false := decide_eq_false hbi
    have hs4 : s.length ≤ 4194304 := by omega
    have hA4 := new80 w3
    have hB4 : Below w3.heap.size w3 (w3.alloc (.cells Tryz.zeroCells80 80)) := (Below.refl _ w3).alloc (Nat.le_refl _) _
    have hz4 : (w3.alloc (.cells Tryz.zeroCells80 80)).heap.size = w3.heap.size + 1 := by simp
    obtain ⟨w4, hw4⟩ : ∃ w4, w3.alloc (.cells Tryz.zeroCells80 80) = w4 := ⟨_, rfl⟩
    rw [hw4] at hA4 hB4 hz4
    have hB04 := below_then hB03 hB03.size hB4
    have hR4 := hR3.heap (W' := w4) (fun k _ hk => hB4.block k (by rw [hz3]; omega))
    rw [hz3] at hA4 hz4
    obtain ⟨w5, hw5, -, -, hz5, hB5, q5⟩ := new_block w4 #[.pointer (some ⟨w.heap.size + 1 + 1 + 1, 0, none⟩)] 77
    have hA5 := hA4.heap (hB5.block _ (by rw [hz4]; omega))
    have hR5 := hR4.heap (W' := w5) (fun k _ hk => hB5.block k (by rw [hz4]; omega))
    have hB05 := below_then hB04 hB04.size hB5
    rw [hz4] at hz5 q5
    have CL := lines_any s w5
    rw [hz5] at CL
    clear hB4 hB5 hR4 hR3 hA4
    clear hRd hbig hbi
    go_wp2_with fail
    refine wp_scope_straight ?_
    go_wp2_with (first | (refine step_new80 (by simp) ?_; intro u; rw [hw4]) | (go_at_call 40; refine CL.mono ?_; rintro e w6 ⟨rfl, hw6⟩) | fail)
    refine wp_label ?_
    go_wp2_with (first | (go_at_call 40; refine CL.mono ?_; rintro e w6 ⟨rfl, hw6⟩) | fail)
    obtain ⟨m, hm⟩ := hE.max
    have hB56 : Below w5.heap.size w5 w6 := by rw [hw6]; exact (Below.refl _ w5).alloc (Nat.le_refl _) _
    have q6 : w6.heap[w.heap.size + 1 + 1 + 1 + 1 + 1]? = some (.cells #[sv s] 9 (0, 0)) := by rw [hw6, ← hz5]; exact heap_alloc_new w5 _
    have hz6 : w6.heap.size = w.heap.size + 6 := by rw [hw6, World.size_alloc, hz5]
    have hB06 := below_then hB05 hB05.size hB56
    have hA6 := hA5.heap (hB56.block _ (by rw [hz5]; omega))
    have hR6 := hR5.heap (W' := w6) (fun k _ hk => hB56.block k (by rw [hz5]; omega))
    have qb6 := row_below q5 hB56
    have hm6 : w6.cell? ⟨1, 0, none⟩ = some (.int .i64 m) := keeps_below hB06 _ _ hm
    have h9 := hE.size
    rw [← hw6]
    clear hw6 hB56 hA5 hR5 q5 hB05 hw1 hw2 hw3 hw4 hw5 CL hbd hB03 hB04
    refine wp_rangeFunc_Q (gf := 77) (lb := #[.pointer (some ⟨w.heap.size + 1 + 1 + 1 + 1 + 1, 0, none⟩)]) (encs := encN) (Kp := fun A B => B.heap[w.heap.size + 1 + 1 + 1 + 1 + 1]? = A.heap[w.heap.size + 1 + 1 + 1 + 1 + 1]? ∧ B.heap[1]? = A.heap[1]?)
      (row0 := some (w.heap.size + 1 + 1 + 1 + 1 + 1)) (xs := numbered 1 (splitNL s)) (w0 := w6) rfl (enters_of Tryz.func77 (by kernel_rfl) rfl) (lines_seq (fun A B h => h) hs4 (by omega) q6 hm6)
      (fun r e => by injection e with e; omega) (fun h1 h2 => ⟨h2.1.trans h1.1, h2.2.trans h1.2⟩)
      (fun h => ⟨(World.putObj_heap_other (by omega)).trans (h.1.trans (World.putObj_heap_other (by omega))), (World.putObj_heap_other (by omega)).trans (h.2.trans (World.putObj_heap_other (by omega)))⟩)
      (Below.refl _ _) (fun x => rfl) (fun pre W => ReadI w s (w6.heap.size + 2) pre W) (fun c pre W => ReadX w s c pre W)
      (fun pre W W' row h hg hr => h.grown hg (fun k e => by rcases hr k e with h | h; injection h with h; omega; omega))
      (fun c pre W W' row h hg hr => h.grown hg (fun k e => by have := hr k e; omega)) ?h0 ?round ?done ?stop
    case h0 =>
      refine ⟨rs0, 1, rfl, ⟨by omega, by omega, rs0_ok 1, _, _, _, hA6, .inl ⟨rfl, rfl, rfl, rfl, rfl, .inl ⟨rfl, rfl⟩⟩⟩, fun rest h x hx => ?_, hR6, qb6, hB06⟩
      exact (numbered_mem _ _ x (by rw [h]; simpa using hx)).1
    case round =>
      rintro pre ⟨no, t⟩ rest W K hxs hsz hI hK
      dsimp only [encN]
      gi_wp2
      refine hK _ _ ⟨rfl, rfl⟩ ⟨rfl, rfl⟩ hI (fun Wb hgb hszb hIb => ?_)
      obtain ⟨R, k, h1, h2, h3, h4, h5, h6⟩ := hIb
      have hmem := numbered_mem (splitNL s) 1 (no, t) (by rw [hxs]; simp)
      have hsl := split_len s
      simp only [] at hmem
      have hRd := (h2.full hszb).more (h3 _ hxs (no, t) (by simp))
      simp only [] at hRd
      have hEb : Env Wb := hE.below h6 hE.size
      have CLn := line_any _ _ no R t Wb hRd hEb (Nat.le_trans (hsl.2 t hmem.2.2.1) hs4) hmem.2.2.2 (by omega)
      have cq := cell_row h5 (j := 0) rfl
      have hno : no ≤ 4194305 := by omega
      generalize hAL : addL R no (scanL t) = AL at CLn
      obtain ⟨ec, R'⟩ := AL
      simp only [] at CLn
      have HAL := hid hAL
      clear hAL
      gi_wp2
      refine ⟨trivial, rfl, (CallsIn.inRound _ (callsIn_wide.2 CLn)).mono ?_⟩
      rintro e W3 ⟨rfl, hF, hRR⟩
      have hK3 : ∀ k, k < w.heap.size + 8 → k ≠ w.heap.size + 1 + 1 + 1 → W3.heap[k]? = Wb.heap[k]? := fun k hk hk2 => hF.block k (by omega) hk2
      have h43 := h4.heap (W' := W3) (fun k _ hk => hK3 k (by omega) (by omega))
      have h53 := (hK3 (w.heap.size + 1 + 1 + 1 + 1) (by omega) (by omega)).trans h5
      have fe := frozen_of_row _ _ 0 _ _ h43.2.2
      have ce := cell_row h43.2.2 (j := 0) rfl
      have G4 : W3.grownBy (W3.setCell ⟨w.heap.size + 1 + 1, 0, none⟩ (.int .i64 ec)) (some (w.heap.size + 1 + 1)) := grown_setCell W3 ⟨w.heap.size + 1 + 1, 0, none⟩ _
      have e4 : (W3.setCell ⟨w.heap.size + 1 + 1, 0, none⟩ (.int .i64 ec)).heap[w.heap.size + 2]? = some (.cells #[.int .i64 ec] 41 (0, 0)) := row_set h43.2.2 (i := 0) (.int .i64 ec)
      have ce4 := cell_row e4 (j := 0) rfl
      have hs3 := hF.size
      clear cq CLn
      have r41 := row_grown h43.2.1 G4 (by intro e; injection e with e; omega)
      have f41 := frozen_of_row _ _ 0 _ _ r41
      have c41 := cell_row r41 (j := 0) rfl
      have hK4 : ∀ k, k < w.heap.size + 8 → k ≠ w.heap.size + 1 + 1 + 1 → k ≠ w.heap.size + 2 → (W3.setCell ⟨w.heap.size + 1 + 1, 0, none⟩ (.int .i64 ec)).heap[k]? = Wb.heap[k]? := fun k hk hk2 hk3 =>
        (G4.block k (by omega) (by intro e; injection e with e; omega)).trans (hK3 k hk hk2)
      have h6b : Below w.heap.size w W3 := h6.trans (hF.toBelow (by omega) (by omega))
      have h64 : Below w.heap.size w (W3.setCell ⟨w.heap.size + 1 + 1, 0, none⟩ (.int .i64 ec)) := h6b.grown G4 (by omega) (fun k e => by injection e with e; omega)
      by_cases hec : ec = 0
      · subst hec
        have hR4 := (hRR rfl).w.grown G4 (fun k e => by injection e with e; omega)
        gi_wp2_with fail
        refine ⟨⟨hK4 _ (by omega) (by omega) (by omega), hK4 _ (by omega) (by omega) (by omega)⟩, ⟨hK4 _ (by omega) (by omega) (by omega), hK4 _ (by omega) (by omega) (by omega)⟩, R', no + 1, ?_, hR4, fun rest' hr' => ?_, ⟨(hK4 _ (by omega) (by omega) (by omega)).trans h4.1, r41, e4⟩, (hK4 _ (by omega) (by omega) (by omega)).trans h5, h64⟩
        · rw [linesN_app scanL pre rs0 R h1, linesN_cons]
          simp only []
          rw [HAL.out]
          rfl
        · have e2 : numbered 1 (splitNL s) = pre ++ (no, t) :: rest' := by rw [hr']; simp
          exact fun x hx => numbered_after _ _ _ _ _ e2 x hx
      · have hz : (ec == 0) = false := beq_eq_false_iff_ne.2 hec
        have hz2 : (ec != 0) = true := bne_iff_ne.2 hec
        have HEC := hid hec
        have hread : readP s = (noNet, no, ec) := by
          rw [HRD.out, linesP_N, hxs, linesN_app scanL pre rs0 R h1, linesN_cons]
          simp only []
          rw [HAL.out]
          simp only []
          rw [if_neg hec]
          unfold doneR
          simp only []
          rw [if_neg hec]
        have HREAD := hid hread
        have G5 : (W3.setCell ⟨w.heap.size + 1 + 1, 0, none⟩ (.int .i64 ec)).grownBy ((W3.setCell ⟨w.heap.size + 1 + 1, 0, none⟩ (.int .i64 ec)).setCell ⟨w.heap.size + 1, 0, none⟩ (.int .i64 (no : Int))) (some (w.heap.size + 1)) := grown_setCell _ ⟨w.heap.size + 1, 0, none⟩ _
        have r51 : ((W3.setCell ⟨w.heap.size + 1 + 1, 0, none⟩ (.int .i64 ec)).setCell ⟨w.heap.size + 1, 0, none⟩ (.int .i64 (no : Int))).heap[w.heap.size + 1]? = some (.cells #[.int .i64 (no : Int)] 3 (0, 0)) := row_set r41 (i := 0) (.int .i64 (no : Int))
        clear hec hread
        gi_wp2_with fail
        have hs4' := G4.size
        have hK5 : ∀ k, k < w.heap.size + 8 → k ≠ w.heap.size + 1 + 1 + 1 → k ≠ w.heap.size + 2 → k ≠ w.heap.size + 1 → _ := fun k hk hk2 hk3 hk4 =>
          (G5.block k (by omega) (by intro e; injection e with e; omega)).trans (hK4 k hk hk2 hk3)
        refine ⟨⟨hK5 _ (by omega) (by omega) (by omega) (by omega), hK5 _ (by omega) (by omega) (by omega) (by omega)⟩, rfl, no, ec, HEC.out, HREAD.out, ?_, ⟨(hK5 _ (by omega) (by omega) (by omega) (by omega)).trans h4.1, r51, row_grown e4 G5 (by intro e; injection e with e; omega)⟩, h64.grown G5 (by omega) (fun k e => by injection e with e; omega)⟩
        have hec5 : ec = 5 ∨ ec = 2 ∨ ec = 7 ∨ ec = 3 ∨ ec = 0 := by have := addL_codes R no (scanL t); rw [HAL.out] at this; exact this
        unfold I64; omega
    case done =>
      rintro W ⟨R, k, hln, hRW, -, hR, hq, hBW⟩ hdef
      have hlG := hid (rok_len (lines_rok (splitNL s) (no := 1) rs0_rok ((linesP_N scanL (splitNL s) rs0 1).trans hln)))
      have hrd : readP s = endR R := by
        rw [HRD.out, linesP_N, hln]
        rfl
      have HRD2 := hid hrd
      obtain ⟨pv, gv, av, hA, hph⟩ := hRW.mem
      have hok := hid hRW.ok
      have cb := cell_row hq (j := 0) rfl
      have cd := hA.cDone
      have ce := cell_row hR.2.2 (j := 0) rfl
      have hlD := row_lt hdef
      clear hrd hln
      cases hd : R.done with
      | false =>
        rw [hd] at cd
        have HR5 := hid (show readP s = (noNet, 0, 5) by rw [HRD2.out]; unfold endR; rw [if_pos hd])
        obtain ⟨⟨f0, c0⟩, ⟨f1, c1⟩, ⟨f2, c2⟩, ⟨f3, c3⟩, ⟨f4, c4⟩, rr, b3⟩ := put3 hR (.slice none 0 0) (.slice none 0 0) (.int .i64 0) (.int .i64 0) (.int .i64 5)
        clear hd
        go_wp2_with fail
        exact read_end_err (D := w6.heap.size) hBW b3 rr hdef (by omega) rfl rfl rfl HR5.out
      | true =>
        rw [hd] at cd
        have HD := hid hd
        clear hd
        rcases hph with ⟨h0, _⟩ | ⟨-, n1, hn1, hn1s, hPre, hGA⟩
        · rw [HD.out] at h0; cases h0
        have co := hA.cOut
        have CK := known42_any _ pv gv av R R.out W.drew hA hok.out.out.1 hok.out.out.2
        go_wp2_with fail
        refine wp_region_noPanic ?_
        go_region_held3 (fun w' => w'.cell? ⟨w.heap.size + 1 + 1 + 1 + 1, 0, none⟩ = some (.pointer (some ⟨w.heap.size + 1 + 1 + 1, 0, none⟩)) ∧ w'.cell? ⟨w.heap.size + 1 + 1 + 1, 2, none⟩ = some (.int .i64 R.out)) (exact ⟨cb, co⟩)
          (first | (go_at_call 42; refine CK.mono ?_; rintro e w' ⟨rfl, hw⟩; subst hw) | fail)
        refine NoPanic.normal ?_
        have hR1 : Res3 w.heap.size (.slice none 0 0) (.slice none 0 0) (.int .i64 0) (.int .i64 0) (.int .i64 0) W.drew := hR
        have hB1 : Below w.heap.size w W.drew := below_drewN hBW 1
        have hA1 : RdAt W.drew (w.heap.size + 1 + 1 + 1) pv gv av R := hA
        have hdef1 : W.drew.heap[w.heap.size + 6]? = some (.deferred (some [])) := by rw [← hz6]; exact hdef
        have hPre1 : PreAt W.drew (w6.heap.size + 2) n1 pv R.pre := hPre
        have hGA1 : GA W.drew n1 gv av R.gates R.at_ := hGA.keep (Nat.le_refl _) (fun _ _ _ => rfl)
        have hq1 : W.drew.heap[w.heap.size + 1 + 1 + 1 + 1]? = some (.cells #[.pointer (some ⟨w.heap.size + 1 + 1 + 1, 0, none⟩)] 77 (0, 0)) := hq
        have hn1s' : n1 ≤ W.drew.heap.size := hn1s
        clear hR hBW hA hdef hPre hGA hq cb cd co ce hlD CK hn1s hRW
        generalize W.drew = W1 at *
        cases hsn : R.seen (absN R.out) with
        | false =>
          have HR6 := hid (show readP s = (noNet, R.outAt, 6) by rw [HRD2.out]; unfold endR; rw [if_neg (by rw [HD.out]; simp), if_pos hsn])
          clear hsn
          go_wp2_with fail
          have hR2 : Res3 w.heap.size (.slice none 0 0) (.slice none 0 0) (.int .i64 0) (.int .i64 0) (.int .i64 0) W1.drew := hR1
          have hB2 : Below w.heap.size w W1.drew := below_drewN hB1 1
          have hdef2 : W1.drew.heap[w.heap.size + 6]? = some (.deferred (some [])) := hdef1
          have cb2 : W1.drew.cell? ⟨w.heap.size + 1 + 1 + 1 + 1, 0, none⟩ = some (.pointer (some ⟨w.heap.size + 1 + 1 + 1, 0, none⟩)) := cell_row hq1 (j := 0) rfl
          have ca2 : W1.drew.cell? ⟨w.heap.size + 1 + 1 + 1, 65545, none⟩ = some (.int .i64 (R.outAt : Int)) := hA1.cOutAt
          refine wp_region_noPanic ?_
          refine wp_region_held_drew (S := fun w' => w'.cell? ⟨w.heap.size + 1 + 1 + 1 + 1, 0, none⟩ = some (.pointer (some ⟨w.heap.size + 1 + 1 + 1, 0, none⟩)) ∧ w'.cell? ⟨w.heap.size + 1 + 1 + 1, 65545, none⟩ = some (.int .i64 (R.outAt : Int))) (by kernel_rfl) ⟨cb2, ca2⟩ (fun hHeld => ?_)
          clear hR1 hB1 hA1 hdef1 hPre1 hGA1 hq1 hn1s'
          generalize W1.drew = Wd at *
          obtain ⟨⟨f0, c0⟩, ⟨f1, c1⟩, ⟨f2, c2⟩, ⟨f3, c3⟩, ⟨f4, c4⟩, rr, b3⟩ := put3 hR2 (.slice none 0 0) (.slice none 0 0) (.int .i64 0) (.int .i64 (R.outAt : Int)) (.int .i64 6)
          have hN1 := (hR2.net (.slice none 0 0) (.slice none 0 0) (.int .i64 0)).2
          have hN2 := hN1.grown (grown_setCell _ ⟨w.heap.size + 1, 0, none⟩ (.int .i64 (R.outAt : Int))) (fun k e => .inr (.inl (by injection e with e; exact e.symm)))
          have hS1 := fun W' (h : But3 w.heap.size Wd W') => And.intro (h.cell cb2 (by simp only []; omega) (by simp only []; omega) (by simp only []; omega)) (h.cell ca2 (by simp only []; omega) (by simp only []; omega) (by simp only []; omega))
          clear cb2 ca2
          refine wpAnyH_take (i := 0) (v := ?vo0) rfl (by kernel_rfl) (by kernel_rfl) (by kernel_rfl) (fun _ _ _ h => h) (Or.inl ⟨by rfl, ?yo0⟩) hHeld ?_
          case yo0 => (intro w' hSw; (try dsimp only at hSw); go_simp); (try with_reducible rfl)
          try simp only [Act.put, List.setIfInBounds_toArray, List.set_cons_zero, List.set_cons_succ]
          refine wpAnyH_take (i := 1) (v := ?vo1) rfl (by kernel_rfl) (by kernel_rfl) (by kernel_rfl) (fun _ _ _ h => h) (Or.inl ⟨by rfl, ?yo1⟩) hHeld ?_
          case yo1 => (intro w' hSw; (try dsimp only at hSw); go_simp); (try with_reducible rfl)
          try simp only [Act.put, List.setIfInBounds_toArray, List.set_cons_zero, List.set_cons_succ]
          refine wpAnyH_take (i := 2) (v := ?vo2) rfl (by kernel_rfl) (by kernel_rfl) (by kernel_rfl) (fun _ _ _ h => h) (Or.inl ⟨by rfl, ?yo2⟩) hHeld ?_
          case yo2 => (intro w' hSw; (try dsimp only at hSw); go_simp); (try with_reducible rfl)
          try simp only [Act.put, List.setIfInBounds_toArray, List.set_cons_zero, List.set_cons_succ]
          refine wpAnyH_take (i := 3) (v := ?vo3) rfl (by kernel_rfl) (by kernel_rfl) (by kernel_rfl) (fun _ _ _ h => h) (Or.inl ⟨by rfl, ?yo3⟩) hHeld ?_
          case yo3 => (intro w' hSw; (try dsimp only at hSw); go_simp); (try with_reducible rfl)
          try simp only [Act.put, List.setIfInBounds_toArray, List.set_cons_zero, List.set_cons_succ]
          refine wpAnyH_take (i := 4) (v := ?vo4) rfl (by kernel_rfl) (by kernel_rfl) (by kernel_rfl) (fun _ _ _ h => h) (Or.inl ⟨by rfl, ?yo4⟩) hHeld ?_
          case yo4 => (intro w' hSw; (try dsimp only at hSw); go_simp); (try with_reducible rfl)
          try simp only [Act.put, List.setIfInBounds_toArray, List.set_cons_zero, List.set_cons_succ]
          refine wpAnyH_ready (rs := [5]) (by kernel_rfl) (by simp) ?_
          refine AllReadyH.cons rfl (fun Kc hKc => ?_) AllReadyH.nil
          go_simp
          refine hKc.out _ _ (hS1 _ hN1) (fun hHeld => ?_)
          clear hKc Kc
          try simp only [Act.put, List.setIfInBounds_toArray, List.set_cons_zero, List.set_cons_succ]
          refine wpAnyH_ready (rs := [6]) (by kernel_rfl) (by simp) ?_
          refine AllReadyH.cons rfl (fun Kc hKc => ?_) AllReadyH.nil
          go_simp
          refine hKc.out _ _ (hS1 _ hN2) (fun hHeld => ?_)
          clear hKc Kc
          try simp only [Act.put, List.setIfInBounds_toArray, List.set_cons_zero, List.set_cons_succ]
          refine wpAnyH_ready (rs := [7]) (by kernel_rfl) (by simp) ?_
          refine AllReadyH.cons rfl (fun Kc hKc => ?_) AllReadyH.nil
          go_simp
          refine hKc.out _ _ (hS1 _ b3) (fun hHeld => ?_)
          clear hKc Kc
          try simp only [Act.put, List.setIfInBounds_toArray, List.set_cons_zero, List.set_cons_succ]
          refine wpAnyH_done (by kernel_rfl) ?_ _
          refine NoPanic.normal ?_
          go_wp2_with fail
          exact read_end_err (D := w.heap.size + 6) hB2 b3 rr hdef2 (by omega) rfl rfl rfl HR6.out
        | true =>
          have HSN := hid hsn
          clear hsn
          have hgl := hok.out.gl
          obtain ⟨Ag, cg, rfl, hlg, hcg⟩ := hGA1.stay.form
          have hGT := gates_of_stay hGA1.stay
          have cg1 := hA1.cGat
          have cb1 := cell_row hq1 (j := 0) rfl
          have HST := hid (show strayP R.seen R.gates R.at_ = strayP R.seen (R.gates.drop 0) (R.at_.drop 0) from rfl)
          go_wp2_with fail
          go_loopg [63] R.gates.length (fun gg s63 wr => ∃ j : Nat, j ≤ R.gates.length ∧ R.gates.length - j ≤ gg ∧ s63 = .int .i64 j ∧ Below W1.heap.size W1 wr ∧ Hid (strayP R.seen R.gates R.at_ = strayP R.seen (R.gates.drop j) (R.at_.drop j)))
          case atStart => exact ⟨0, Nat.zero_le _, by omega, rfl, Below.refl _ _, HST⟩
          case round =>
            obtain ⟨j, hj, hgg, rfl, hBj, hst⟩ := hrel
            by_cases hlt : j < R.gates.length
            · have hltz : (j : Int) < (R.gates.length : Int) := by omega
              obtain ⟨g, hgj, hgm, hdrop⟩ := nth hlt
              obtain ⟨bg, og, vi, rfl, k0, k1, k2, hi, hg64, hkd0, hkd1⟩ := hGT.at_ j g hgj
              obtain ⟨Ai, ci, rfl, -, -⟩ := hi.form
              have kj0 := keeps_below hBj _ _ k0
              have kj1 := keeps_below hBj _ _ k1
              have kj2 := keeps_below hBj _ _ k2
              obtain ⟨w7, hw7, -, -, hz7, hB7, q7⟩ := new_block wr #[.int .i64 g.var, .int .u8 g.kind, .slice Ai g.ins.length ci] 88
              have hB17 := below_then hBj hBj.size hB7
              have ci7 := cell_row q7 (j := 2) rfl
              have hgs := hok.out.gs g hgm
              have S44 := fun l h1 h2 => strange44 (w.heap.size + 1 + 1 + 1 + 1) (w.heap.size + 1 + 1 + 1) pv (.slice (some ⟨bg, og, none⟩) R.gates.length cg) av R l w7 (keeps_below hB17 _ _ cb1) (hA1.heap (hB17.block _ hA1.lt)) h1 h2
              have CF := containsFunc_ints (fun l => !R.seen (absN l)) 44 #[] #[.pointer (some ⟨w.heap.size + 1 + 1 + 1 + 1, 0, none⟩)] (enters_of Tryz.func44 (by kernel_rfl) rfl) (.slice Ai g.ins.length ci) g.ins w7 (fun W => W = w7) rfl
                (fun W hW => by rw [hW]; exact hi.keep (keeps_below hB17))
                (fun l W hl hW => by rw [hW]; exact S44 l (hgs.2.2 l hl).1 (hgs.2.2 l hl).2)
              have HDR := hid hdrop
              clear hgs hdrop hi S44
              cases hany : g.ins.any (fun l => !R.seen (absN l)) with
              | true =>
                rw [hany] at CF
                have HANY := hid hany
                clear hany
                go_wp2_with (first | (go_at_call 43; refine CF.mono ?_; rintro e w8 ⟨rfl, rfl⟩) | fail)
                have hal := hok.out.al
                obtain ⟨no, hno, -, hdn⟩ := nth (show j < R.at_.length by omega)
                have HR6 := hid (show readP s = (noNet, no, 6) by
                  rw [HRD2.out]
                  unfold endR
                  rw [if_neg (by rw [HD.out]; simp), if_neg (by rw [HSN.out]; simp), hst.out, HDR.out, hdn]
                  show (match (if (g.ins.any fun l => !R.seen (absN l)) = true then some no else _) with | some n => (noNet, n, (6 : Int)) | none => endO R (orderP (varsOf R.pre) R.gates)) = _
                  rw [HANY.out]
                  rfl)
                obtain ⟨ga, capa, rfl, hga1, hga2, hga3⟩ := own_form hGA1.ats (by omega)
                have hjn : j < R.at_.length := by omega
                have hjni : (j : Int) < (R.at_.length : Int) := by omega
                have cat0 : W1.cell? ⟨ga, j, none⟩ = some (.int .i64 (no : Int)) := (hGA1.ats.cellAt j (by omega)).trans (nums_get (by unfold natI; rw [List.getElem?_map, hno]; rfl))
                have hR2 : Res3 w.heap.size (.slice none 0 0) (.slice none 0 0) (.int .i64 0) (.int .i64 0) (.int .i64 0) w8.drew := hR1.heap (fun k _ hk => hB17.block k (by have := row_lt hR1.2.2; omega))
                have hB2 : Below w.heap.size w w8.drew := below_drewN (hB1.trans (hB17.mono hB1.size)) 1
                have hdef2 : w8.drew.heap[w.heap.size + 6]? = some (.deferred (some [])) := (hB17.block _ (row_lt hdef1)).trans hdef1
                have cb2 : w8.drew.cell? ⟨w.heap.size + 1 + 1 + 1 + 1, 0, none⟩ = some (.pointer (some ⟨w.heap.size + 1 + 1 + 1, 0, none⟩)) := keeps_below hB17 _ _ cb1
                have ca2 : w8.drew.cell? ⟨w.heap.size + 1 + 1 + 1, 65544, none⟩ = some (.slice (some ⟨ga, 0, none⟩) R.at_.length capa) := keeps_below hB17 _ _ hA1.cAt
                have cj2 : w8.drew.cell? ⟨ga, j, none⟩ = some (.int .i64 (no : Int)) := keeps_below hB17 _ _ cat0
                have hgaz : w.heap.size + 3 ≤ ga := by omega
                refine wp_region_noPanic ?_
                refine wp_region_held_drew (S := fun w' => w'.cell? ⟨w.heap.size + 1 + 1 + 1 + 1, 0, none⟩ = some (.pointer (some ⟨w.heap.size + 1 + 1 + 1, 0, none⟩)) ∧ w'.cell? ⟨w.heap.size + 1 + 1 + 1, 65544, none⟩ = some (.slice (some ⟨ga, 0, none⟩) R.at_.length capa) ∧ w'.cell? ⟨ga, j, none⟩ = some (.int .i64 (no : Int))) (by kernel_rfl) ⟨cb2, ca2, cj2⟩ (fun hHeld => ?_)
                clear hR1 hB1 hA1 hdef1 hPre1 hGA1 hq1 hn1s' cg1 cb1 CF ci7 q7 hB17 hB7 hBj kj0 kj1 kj2 k0 k1 k2 hGT cat0
                generalize w8.drew = Wd at *
                obtain ⟨⟨f0, c0⟩, ⟨f1, c1⟩, ⟨f2, c2⟩, ⟨f3, c3⟩, ⟨f4, c4⟩, rr, b3⟩ := put3 hR2 (.slice none 0 0) (.slice none 0 0) (.int .i64 0) (.int .i64 (no : Int)) (.int .i64 6)
                have hN1 := (hR2.net (.slice none 0 0) (.slice none 0 0) (.int .i64 0)).2
                have hN2 := hN1.grown (grown_setCell _ ⟨w.heap.size + 1, 0, none⟩ (.int .i64 (no : Int))) (fun k e => .inr (.inl (by injection e with e; exact e.symm)))
                have hS1 := fun W' (h : But3 w.heap.size Wd W') => And.intro (h.cell cb2 (by simp only []; omega) (by simp only []; omega) (by simp only []; omega)) (And.intro (h.cell ca2 (by simp only []; omega) (by simp only []; omega) (by simp only []; omega)) (h.cell cj2 (by simp only []; omega) (by simp only []; omega) (by simp only []; omega)))
                clear cb2 ca2 cj2
                refine wpAnyH_take (i := 0) (v := ?vp0) rfl (by kernel_rfl) (by kernel_rfl) (by kernel_rfl) (fun _ _ _ h => h) (Or.inl ⟨by rfl, ?yp0⟩) hHeld ?_
                case yp0 => (intro w' hSw; (try dsimp only at hSw); go_simp); (try with_reducible rfl)
                try simp only [Act.put, List.setIfInBounds_toArray, List.set_cons_zero, List.set_cons_succ]
                refine wpAnyH_take (i := 1) (v := ?vp1) rfl (by kernel_rfl) (by kernel_rfl) (by kernel_rfl) (fun _ _ _ h => h) (Or.inl ⟨by rfl, ?yp1⟩) hHeld ?_
                case yp1 => (intro w' hSw; (try dsimp only at hSw); go_simp); (try with_reducible rfl)
                try simp only [Act.put, List.setIfInBounds_toArray, List.set_cons_zero, List.set_cons_succ]
                refine wpAnyH_take (i := 2) (v := ?vp2) rfl (by kernel_rfl) (by kernel_rfl) (by kernel_rfl) (fun _ _ _ h => h) (Or.inl ⟨by rfl, ?yp2⟩) hHeld ?_
                case yp2 => (intro w' hSw; (try dsimp only at hSw); go_simp); (try with_reducible rfl)
                try simp only [Act.put, List.setIfInBounds_toArray, List.set_cons_zero, List.set_cons_succ]
                refine wpAnyH_take (i := 3) (v := ?vp3) rfl (by kernel_rfl) (by kernel_rfl) (by kernel_rfl) (fun _ _ _ h => h) (Or.inl ⟨by rfl, ?yp3⟩) hHeld ?_
                case yp3 => (intro w' hSw; (try dsimp only at hSw); go_simp); (try with_reducible rfl)
                try simp only [Act.put, List.setIfInBounds_toArray, List.set_cons_zero, List.set_cons_succ]
                refine wpAnyH_take (i := 4) (v := ?vp4) rfl (by kernel_rfl) (by kernel_rfl) (by kernel_rfl) (fun _ _ _ h => h) (Or.inl ⟨by rfl, ?yp4⟩) hHeld ?_
                case yp4 => (intro w' hSw; (try dsimp only at hSw); go_simp); (try with_reducible rfl)
                try simp only [Act.put, List.setIfInBounds_toArray, List.set_cons_zero, List.set_cons_succ]
                refine wpAnyH_take (i := 5) (v := ?vp5) rfl (by kernel_rfl) (by kernel_rfl) (by kernel_rfl) (fun _ _ _ h => h) (Or.inl ⟨by rfl, ?yp5⟩) hHeld ?_
                case yp5 => (intro w' hSw; (try dsimp only at hSw); go_simp); (try with_reducible rfl)
                try simp only [Act.put, List.setIfInBounds_toArray, List.set_cons_zero, List.set_cons_succ]
                refine wpAnyH_take (i := 6) (v := ?vp6) rfl (by kernel_rfl) (by kernel_rfl) (by kernel_rfl) (fun _ _ _ h => h) (Or.inl ⟨by rfl, ?yp6⟩) hHeld ?_
                case yp6 => (intro w' hSw; (try dsimp only at hSw); go_simp); (try with_reducible rfl)
                try simp only [Act.put, List.setIfInBounds_toArray, List.set_cons_zero, List.set_cons_succ]
                refine wpAnyH_take (i := 7) (v := ?vp7) rfl (by kernel_rfl) (by kernel_rfl) (by kernel_rfl) (fun _ _ _ h => h) (Or.inl ⟨by rfl, ?yp7⟩) hHeld ?_
                case yp7 => (intro w' hSw; (try dsimp only at hSw); go_simp); (try with_reducible rfl)
                try simp only [Act.put, List.setIfInBounds_toArray, List.set_cons_zero, List.set_cons_succ]
                refine wpAnyH_ready (rs := [8]) (by kernel_rfl) (by simp) ?_
                refine AllReadyH.cons rfl (fun Kc hKc => ?_) AllReadyH.nil
                go_simp
                refine hKc.out _ _ (hS1 _ hN1) (fun hHeld => ?_)
                clear hKc Kc
                try simp only [Act.put, List.setIfInBounds_toArray, List.set_cons_zero, List.set_cons_succ]
                refine wpAnyH_ready (rs := [9]) (by kernel_rfl) (by simp) ?_
                refine AllReadyH.cons rfl (fun Kc hKc => ?_) AllReadyH.nil
                go_simp
                refine hKc.out _ _ (hS1 _ hN2) (fun hHeld => ?_)
                clear hKc Kc
                try simp only [Act.put, List.setIfInBounds_toArray, List.set_cons_zero, List.set_cons_succ]
                refine wpAnyH_ready (rs := [10]) (by kernel_rfl) (by simp) ?_
                refine AllReadyH.cons rfl (fun Kc hKc => ?_) AllReadyH.nil
                go_simp
                refine hKc.out _ _ (hS1 _ b3) (fun hHeld => ?_)
                clear hKc Kc
                try simp only [Act.put, List.setIfInBounds_toArray, List.set_cons_zero, List.set_cons_succ]
                refine wpAnyH_done (by kernel_rfl) ?_ _
                refine NoPanic.normal ?_
                go_wp2_with fail
                exact read_end_err (D := w.heap.size + 6) hB2 b3 rr hdef2 (by omega) rfl rfl rfl HR6.out
              | false =>
                rw [hany] at CF
                have HANY := hid hany
                clear hany
                go_wp2_with (first | (go_at_call 43; refine CF.mono ?_; rintro e w8 ⟨rfl, rfl⟩) | fail)
                go_roundg (R.gates.length - (j + 1))
                case measure => omega
                case rel =>
                  refine ⟨j + 1, by omega, by omega, by go_num, hB17, ?_⟩
                  obtain ⟨no, hno, -, hdn⟩ := nth (show j < R.at_.length by have := hok.out.al; omega)
                  refine hid ?_
                  rw [hst.out, HDR.out, hdn]
                  show (if (g.ins.any fun l => !R.seen (absN l)) = true then some no else _) = _
                  rw [HANY.out]
                  rfl
            · have hltz : ¬ (j : Int) < (R.gates.length : Int) := by omega
              have hno : strayP R.seen R.gates R.at_ = none := by
                rw [hst.out, List.drop_eq_nil_of_le (by omega)]
                cases R.at_.drop j <;> rfl
              have HRE := hid (show readP s = endO R (orderP (varsOf R.pre) R.gates) by
                rw [HRD2.out]
                unfold endR
                rw [if_neg (by rw [HD.out]; simp), if_neg (by rw [HSN.out]; simp), hno])
              have hR2 : Res3 w.heap.size (.slice none 0 0) (.slice none 0 0) (.int .i64 0) (.int .i64 0) (.int .i64 0) wr := hR1.heap (fun k _ hk => hBj.block k (by have := row_lt hR1.2.2; omega))
              have hB2 : Below w.heap.size w wr := hB1.trans (hBj.mono hB1.size)
              have hdef2 := row_below hdef1 hBj
              have hA2 := hA1.heap (hBj.block _ hA1.lt)
              have hq2 := row_below hq1 hBj
              have hPre2 := hPre1.keep (fun k _ hk => hBj.block k (by omega))
              have hGA2 := hGA1.keep hBj.size (fun k _ hk => hBj.block k hk)
              have hn2 : n1 ≤ wr.heap.size := Nat.le_trans hn1s' hBj.size
              have hI64 : ∀ x ∈ R.pre, ∀ y ∈ x.vars, I64 y := fun x hx y hy => by have := hok.out.pre x hx y hy; exact ⟨by omega, by omega⟩
              have hPB := blocks_of_out (hPre2.out hn2) hI64
              obtain ⟨Ap, cp, rfl, hlp, hcp⟩ := hPB.form
              have cp2 := hA2.cPre
              have cb2 := cell_row hq2 (j := 0) rfl
              clear hno hst hPre1 hGA1 hA1 hq1 hdef1 hB1 hR1 hn1s' hBj hGT cg1 cb1
              generalize wr = W2 at *
              go_wp2_with fail
              have hvl : (varsOf R.pre).length ≤ 1024 := by have := hok.out.nv; have := hok.out.vars; omega
              go_loopg [10, 87] R.pre.length (fun gg s10 s87 W' => ∃ (i : Nat) (vo : Value), i ≤ R.pre.length ∧ R.pre.length - i ≤ gg ∧ s87 = .int .i64 i ∧ s10 = vo ∧ Below W2.heap.size W2 W' ∧ W'.ownsRow W2.heap.size 3 1 vo (varsOf (R.pre.take i)).length (nums (varsOf (R.pre.take i))))
              case atStart => exact ⟨0, .slice none 0 0, Nat.zero_le _, by omega, rfl, rfl, Below.refl _ _, by simpa [varsOf, nums] using World.ownsRow_nil W2 W2.heap.size 3 1⟩
              case round =>
                obtain ⟨i, vo, hil, hig, rfl, rfl, hB3, hO⟩ := hrel
                obtain ⟨Ao, co, rfl⟩ := own_shape hO
                by_cases hlt2 : i < R.pre.length
                · obtain ⟨x, hx, hm, -⟩ := nth hlt2
                  obtain ⟨bp, off, vi, rfl, hc0, hc1, hi⟩ := (hPB.keep (keeps_below hB3)).at_ i x hx
                  obtain ⟨Ai, ci, rfl, hli, hci⟩ := hi.form
                  have hltz2 : (i : Int) < (R.pre.length : Int) := by omega
                  have htk := varsOf_take hx
                  have hle := varsOf_take_le R.pre (i + 1)
                  rw [htk, List.length_append] at hle
                  have HTK := hid htk
                  obtain ⟨w9, hw9, -, -, hz9, hB9, q9⟩ := new_block wr #[.bool x.ex, .slice Ai x.vars.length ci] 71
                  have c91 := cell_row q9 (j := 1) rfl
                  have hO9 := hO.kept (grown_of_below hB9 none) (by cases (Value.slice Ao (varsOf (R.pre.take i)).length co).ownBlock <;> simp)
                  have hi9 := hi.keep (keeps_below hB9)
                  have hB29 := below_then hB3 hB3.size hB9
                  have hbs := hB29.size
                  clear htk hx hm
                  go_wp2_with (first | (at_builtin; refine append_any W2.heap.size rfl _ _ rfl (.slice Ao (varsOf (R.pre.take i)).length co) (varsOf (R.pre.take i)).length (varsOf (R.pre.take i)) Ai x.vars.length ci x.vars rfl rfl hO9 hi9 rfl hbs (by omega) ?_; intro v1 w10 hO1 hG1) | fail)
                  go_roundg (R.pre.length - (i + 1))
                  case measure => omega
                  case rel => exact ⟨i + 1, v1, by omega, by omega, by go_num, rfl, hB29.grown hG1 hB29.size (fun r e => (hO9.lt r e).1), by rw [HTK.out, List.length_append]; exact hO1⟩
                · have hltz2 : ¬ (i : Int) < (R.pre.length : Int) := by omega
                  rw [List.take_of_length_le (by omega : R.pre.length ≤ i)] at hO
                  have HO := hid hO
                  clear hO
                  go_wp2_with fail
                  have hvI : ∀ y ∈ varsOf R.pre, I64 y := fun y hy => by
                    unfold varsOf at hy
                    rw [List.mem_flatMap] at hy
                    obtain ⟨x, hx, hyx⟩ := hy
                    exact hI64 x hx y hyx
                  have hlS : litSum R.gates ≤ 4611686018427387904 ∧ R.gates.length ≤ 1000000 := hlG.out
                  have hR3 : Res3 w.heap.size (.slice none 0 0) (.slice none 0 0) (.int .i64 0) (.int .i64 0) (.int .i64 0) wr.drew := hR2.heap (fun k _ hk => hB3.block k (by have := row_lt hR2.2.2; omega))
                  have hB3w : Below w.heap.size w wr.drew := below_drewN (hB2.trans (hB3.mono hB2.size)) 1
                  have hdef3 : wr.drew.heap[w.heap.size + 6]? = some (.deferred (some [])) := (hB3.block _ (row_lt hdef2)).trans hdef2
                  have hA3 : RdAt wr.drew (w.heap.size + 1 + 1 + 1) (.slice Ap R.pre.length cp) (.slice Ag R.gates.length cg) av R := hA2.heap (hB3.block _ hA2.lt)
                  have hq3 : wr.drew.heap[w.heap.size + 1 + 1 + 1 + 1]? = some (.cells #[.pointer (some ⟨w.heap.size + 1 + 1 + 1, 0, none⟩)] 77 (0, 0)) := (hB3.block _ (row_lt hq2)).trans hq2
                  have hPre3 : PreAt wr.drew (w6.heap.size + 2) n1 (.slice Ap R.pre.length cp) R.pre := hPre2.keep (fun k _ hk => hB3.block k (by omega))
                  have hGA3 : GA wr.drew n1 (.slice Ag R.gates.length cg) av R.gates R.at_ := hGA2.keep hB3.size (fun k _ hk => hB3.block k hk)
                  have hn3 : n1 ≤ wr.drew.heap.size := Nat.le_trans hn2 hB3.size
                  have hIn : IntsAt wr.drew (.slice Ao (varsOf R.pre).length co) (varsOf R.pre) := ints_of_own (w := wr.drew) HO.out hvI (by omega)
                  refine wp_region_noPanic ?_
                  refine wp_region_held_drew (S := fun w' => w'.cell? ⟨w.heap.size + 1 + 1 + 1 + 1, 0, none⟩ = some (.pointer (some ⟨w.heap.size + 1 + 1 + 1, 0, none⟩))) (by kernel_rfl) (cell_row hq3 (j := 0) rfl) (fun hHeld => ?_)
                  clear HO hR2 hB2 hdef2 hA2 hq2 hPre2 hGA2 hn2 hPB hB3 cp2 cb2 hltz hltz2
                  generalize wr.drew = Wd at *
                  have hlen := hid (show (varsOf (R.pre.take i)).length = (varsOf R.pre).length by rw [List.take_of_length_le (by omega : R.pre.length ≤ i)])
                  have CO := Order_K _ _ (varsOf R.pre) R.gates Wd (keepOnly (fun k => decide (w6.heap.size + 2 ≤ k)) Wd) hIn (snap_gates hGA3 hn1) (snap_keeps (fun _ _ _ => rfl)) hlS.1 hlS.2
                  generalize hOP : orderP (varsOf R.pre) R.gates = OP at CO HRE
                  obtain ⟨o, ec⟩ := OP
                  rw [← hlen.out] at CO
                  have HOP := hid hOP
                  clear hOP
                  have cg3 := hA3.cGat
                  have hIh := hid hIn
                  clear hIn hlS hvl hvI
                  refine wpAnyH_take (i := 0) (v := ?vq1) rfl (by kernel_rfl) (by kernel_rfl) (by kernel_rfl) (fun _ _ _ h => h) (Or.inl ⟨by rfl, ?yq1⟩) hHeld ?_
                  case yq1 => (intro w' hSw; (try dsimp only at hSw); go_simp); (try with_reducible rfl)
                  try simp only [Act.put, List.setIfInBounds_toArray, List.set_cons_zero, List.set_cons_succ]
                  refine wpAnyH_take (i := 1) (v := ?vq2) rfl (by kernel_rfl) (by kernel_rfl) (by kernel_rfl) (fun _ _ _ h => h) (Or.inl ⟨by rfl, ?yq2⟩) hHeld ?_
                  case yq2 => (intro w' hSw; (try dsimp only at hSw); go_simp); (try with_reducible rfl)
                  try simp only [Act.put, List.setIfInBounds_toArray, List.set_cons_zero, List.set_cons_succ]
                  refine wpAnyH_take (i := 2) (v := ?vq3) rfl (by kernel_rfl) (by kernel_rfl) (by kernel_rfl) (fun _ _ _ h => h) (Or.inl ⟨by rfl, ?yq3⟩) hHeld ?_
                  case yq3 => (intro w' hSw; (try dsimp only at hSw); go_simp); (try with_reducible rfl)
                  try simp only [Act.put, List.setIfInBounds_toArray, List.set_cons_zero, List.set_cons_succ]
                  refine wpAnyH_take (i := 3) (v := ?vq4) rfl (by kernel_rfl) (by kernel_rfl) (by kernel_rfl) (fun _ _ _ h => h) (Or.inl ⟨by rfl, ?yq4⟩) hHeld ?_
                  case yq4 => (intro w' hSw; (try dsimp only at hSw); go_simp); (try with_reducible rfl)
                  try simp only [Act.put, List.setIfInBounds_toArray, List.set_cons_zero, List.set_cons_succ]
                  refine wpAnyH_take (i := 4) (v := ?vq5) rfl (by kernel_rfl) (by kernel_rfl) (by kernel_rfl) (fun _ _ _ h => h) (Or.inl ⟨by rfl, ?yq5⟩) hHeld ?_
                  case yq5 => (intro w' hSw; (try dsimp only at hSw); go_simp); (try with_reducible rfl)
                  try simp only [Act.put, List.setIfInBounds_toArray, List.set_cons_zero, List.set_cons_succ]
                  refine wpAnyH_take (i := 5) (v := ?vq6) rfl (by kernel_rfl) (by kernel_rfl) (by kernel_rfl) (fun _ _ _ h => h) (Or.inl ⟨by rfl, ?yq6⟩) hHeld ?_
                  case yq6 => (intro w' hSw; (try dsimp only at hSw); go_simp); (try with_reducible rfl)
                  try simp only [Act.put, List.setIfInBounds_toArray, List.set_cons_zero, List.set_cons_succ]
                  refine wpAnyH_ready (rs := [6]) (by kernel_rfl) (by simp) ?_
                  refine AllReadyH.cons rfl (fun Kc hKc => ?_) AllReadyH.nil
                  go_simp
                  refine hKc.out _ _ hHeld (fun hHeld => ?_)
                  clear hKc Kc
                  try simp only [Act.put, List.setIfInBounds_toArray, List.set_cons_zero, List.set_cons_succ]
                  refine wpAnyH_ready (rs := [7]) (by kernel_rfl) (by simp) ?_
                  refine AllReadyH.cons rfl (fun Kc hKc => ?_) AllReadyH.nil
                  go_simp
                  go_at_call 45
                  refine CO.mono ?_
                  rintro e W4 ⟨hB4, v, rfl, hRG⟩
                  obtain ⟨Av, cv, rfl, hcv1, hcv2⟩ := hRG.len
                  have q4 := row_below hq3 hB4
                  have A4 := hA3.heap (hB4.block _ hA3.lt)
                  have R4 := hR3.heap (W' := W4) (fun k _ hk => hB4.block k (by have := row_lt hR3.2.2; omega))
                  have hdef4 := row_below hdef3 hB4
                  have hPre4 := hPre3.keep (w' := W4) (fun k _ hk => hB4.block k (by omega))
                  have hB4w := hB3w.trans (hB4.mono hB3w.size)
                  have hn4 := Nat.le_trans hn3 hB4.size
                  have hK4 : ∀ k, k < Wd.heap.size → W4.heap[k]? = Wd.heap[k]? := fun k hk => hB4.block k hk
                  clear cg3 CO hq3 hA3 hR3 hdef3 hPre3 hB3w
                  go_wp2_with fail
                  refine hKc.out _ _ (cell_row q4 (j := 0) rfl) (fun hHeld => ?_)
                  clear hKc Kc
                  try simp only [Act.put, List.setIfInBounds_toArray, List.set_cons_zero, List.set_cons_succ]
                  refine wpAnyH_take (i := 8) (v := ?vq7) rfl (by kernel_rfl) (by kernel_rfl) (by kernel_rfl) (fun _ _ _ h => h) (Or.inl ⟨by rfl, ?yq7⟩) hHeld ?_
                  case yq7 => (intro w' hSw; (try dsimp only at hSw); go_simp); (try with_reducible rfl)
                  try simp only [Act.put, List.setIfInBounds_toArray, List.set_cons_zero, List.set_cons_succ]
                  refine wpAnyH_take (i := 9) (v := ?vq8) rfl (by kernel_rfl) (by kernel_rfl) (by kernel_rfl) (fun _ _ _ h => h) (Or.inl ⟨by rfl, ?yq8⟩) hHeld ?_
                  case yq8 => (intro w' hSw; (try dsimp only at hSw); go_simp); (try with_reducible rfl)
                  try simp only [Act.put, List.setIfInBounds_toArray, List.set_cons_zero, List.set_cons_succ]
                  refine wpAnyH_take (i := 10) (v := ?vq9) rfl (by kernel_rfl) (by kernel_rfl) (by kernel_rfl) (fun _ _ _ h => h) (Or.inl ⟨by rfl, ?yq9⟩) hHeld ?_
                  case yq9 => (intro w' hSw; (try dsimp only at hSw); go_simp); (try with_reducible rfl)
                  try simp only [Act.put, List.setIfInBounds_toArray, List.set_cons_zero, List.set_cons_succ]
                  refine wpAnyH_take (i := 11) (v := ?vq10) rfl (by kernel_rfl) (by kernel_rfl) (by kernel_rfl) (fun _ _ _ h => h) (Or.inl ⟨by rfl, ?yq10⟩) hHeld ?_
                  case yq10 => (intro w' hSw; (try dsimp only at hSw); go_simp); (try with_reducible rfl)
                  try simp only [Act.put, List.setIfInBounds_toArray, List.set_cons_zero, List.set_cons_succ]
                  refine wpAnyH_take (i := 12) (v := ?vq11) rfl (by kernel_rfl) (by kernel_rfl) (by kernel_rfl) (fun _ _ _ h => h) (Or.inl ⟨by rfl, ?yq11⟩) hHeld ?_
                  case yq11 => (intro w' hSw; (try dsimp only at hSw); go_simp); (try with_reducible rfl)
                  try simp only [Act.put, List.setIfInBounds_toArray, List.set_cons_zero, List.set_cons_succ]
                  refine wpAnyH_take (i := 13) (v := ?vq12) rfl (by kernel_rfl) (by kernel_rfl) (by kernel_rfl) (fun _ _ _ h => h) (Or.inl ⟨by rfl, ?yq12⟩) hHeld ?_
                  case yq12 => (intro w' hSw; (try dsimp only at hSw); go_simp); (try with_reducible rfl)
                  try simp only [Act.put, List.setIfInBounds_toArray, List.set_cons_zero, List.set_cons_succ]
                  have c4 := A4.cGat
                  have f4 := A4.free 1
                  have G5 : W4.grownBy (W4.setCell ⟨w.heap.size + 1 + 1 + 1, 1, none⟩ (.slice Av o.length cv)) (some (w.heap.size + 1 + 1 + 1)) := grown_setCell W4 ⟨w.heap.size + 1 + 1 + 1, 1, none⟩ _
                  have A5 := A4.put 1 (.slice Av o.length cv) (fun cs h => h.setGat (.slice Av o.length cv) o)
                  have R5 := R4.heap (W' := W4.setCell ⟨w.heap.size + 1 + 1 + 1, 1, none⟩ (.slice Av o.length cv)) (fun k _ hk => G5.block k (by have := row_lt R4.2.2; omega) (by intro e; injection e with e; omega))
                  have q5 := row_grown q4 G5 (by intro e; injection e with e; omega)
                  refine wpAnyH_ready (rs := [14]) (by kernel_rfl) (by simp) ?_
                  refine AllReadyH.cons rfl (fun Kc hKc => ?_) AllReadyH.nil
                  go_simp
                  refine hKc.out _ _ (cell_row q5 (j := 0) rfl) (fun hHeld => ?_)
                  clear hKc Kc c4 f4
                  try simp only [Act.put, List.setIfInBounds_toArray, List.set_cons_zero, List.set_cons_succ]
                  have hK5 : ∀ k, w6.heap.size + 2 ≤ k → k < W4.heap.size → (W4.setCell ⟨w.heap.size + 1 + 1 + 1, 1, none⟩ (.slice Av o.length cv)).heap[k]? = W4.heap[k]? := fun k h1 h2 => G5.block k h2 (by intro e; injection e with e; omega)
                  have hs5 := G5.size
                  have hB5w : Below w.heap.size w (W4.setCell ⟨w.heap.size + 1 + 1 + 1, 1, none⟩ (.slice Av o.length cv)) := hB4w.grown G5 hB4w.size (fun k e => by injection e with e; omega)
                  have hdef5 := row_grown hdef4 G5 (by intro e; injection e with e; omega)
                  clear G5
                  generalize W4.setCell ⟨w.heap.size + 1 + 1 + 1, 1, none⟩ (.slice Av o.length cv) = W5 at *
                  have c5 := cell_row R5.2.2 (j := 0) rfl
                  have f5 := frozen_of_row _ _ 0 _ _ R5.2.2
                  have G6 : W5.grownBy (W5.setCell ⟨w.heap.size + 2, 0, none⟩ (.int .i64 ec)) (some (w.heap.size + 2)) := grown_setCell W5 ⟨w.heap.size + 2, 0, none⟩ _
                  have A6 := A5.grown G6 (by intro e; injection e with e; omega)
                  have R6 := R5.err (.int .i64 ec)
                  have q6 := row_grown q5 G6 (by intro e; injection e with e; omega)
                  refine wpAnyH_ready (rs := [15]) (by kernel_rfl) (by simp) ?_
                  refine AllReadyH.cons rfl (fun Kc hKc => ?_) AllReadyH.nil
                  go_simp
                  refine hKc.out _ _ (cell_row q6 (j := 0) rfl) (fun hHeld => ?_)
                  clear hKc Kc c5 f5
                  try simp only [Act.put, List.setIfInBounds_toArray, List.set_cons_zero, List.set_cons_succ]
                  have hK6 : ∀ k, w6.heap.size + 2 ≤ k → k < W4.heap.size → (W5.setCell ⟨w.heap.size + 2, 0, none⟩ (.int .i64 ec)).heap[k]? = W4.heap[k]? := fun k h1 h2 => (G6.block k (by omega) (by intro e; injection e with e; omega)).trans (hK5 k h1 h2)
                  have hs6 := Nat.le_trans hs5 G6.size
                  have hB6w : Below w.heap.size w (W5.setCell ⟨w.heap.size + 2, 0, none⟩ (.int .i64 ec)) := hB5w.grown G6 hB5w.size (fun k e => by injection e with e; omega)
                  have hdef6 := row_grown hdef5 G6 (by intro e; injection e with e; omega)
                  clear G6 A5 R5 q5 hB5w hdef5 hK5 hs5
                  generalize W5.setCell ⟨w.heap.size + 2, 0, none⟩ (.int .i64 ec) = W6 at *
                  clear A4 R4 q4 hdef4 hB4w hHeld
                  refine wpAnyH_done (by kernel_rfl) ?_ _
                  refine NoPanic.normal ?_
                  have hP6 : PreAt W6 (w6.heap.size + 2) n1 (.slice Ap R.pre.length cp) R.pre := hPre4.keep (fun k h1 h2 => hK6 k h1 (Nat.lt_of_lt_of_le h2 hn4))
                  have hn6 : n1 ≤ W6.heap.size := Nat.le_trans hn4 hs6
                  have hbase6 : w6.heap.size + 2 ≤ Wd.heap.size := Nat.le_trans hn1 hn3
                  have hz6' : w.heap.size + 8 ≤ w6.heap.size + 2 := by omega
                  have hG6 : RowG (keepOnly (fun k => decide (w6.heap.size + 2 ≤ k)) Wd) W6 Wd.heap.size (.slice Av o.length cv) o := by
                    obtain ⟨es, g1, g2, g3⟩ := hRG
                    exact ⟨es, g1, own_move g2 (fun b cs fr hb hc => (hK6 b (Nat.le_trans hbase6 hb) (row_lt hc)).trans hc), g3⟩
                  have hkp6 : ∀ W', (∀ k, w6.heap.size + 2 ≤ k → k < W6.heap.size → W'.heap[k]? = W6.heap[k]?) → Keeps (keepOnly (fun k => decide (w6.heap.size + 2 ≤ k)) Wd) W' := fun W' h =>
                    snap_keeps (fun k h1 h2 => (h k h1 (Nat.lt_of_lt_of_le h2 (Nat.le_trans hB4.size hs6))).trans ((hK6 k h1 (Nat.lt_of_lt_of_le h2 hB4.size)).trans (hK4 k h2)))
                  clear hK6 hs6 hPre4 hRG hn4
                  have ce6 := cell_row R6.2.2 (j := 0) rfl
                  by_cases hec : ec = 0
                  · subst hec
                    have HR0 := hid (show readP s = (⟨R.pre, o, R.out⟩, 0, 0) by rw [HRE.out]; rfl)
                    have cq6 := cell_row q6 (j := 0) rfl
                    have ca0 := A6.cPre
                    have ca1 := A6.cGat
                    have ca2 := A6.cOut
                    obtain ⟨⟨f0, c0⟩, ⟨f1, c1⟩, ⟨f2, c2⟩, ⟨f3, c3⟩, ⟨f4, c4⟩, rr, b3⟩ := put3 R6 (.slice Ap R.pre.length cp) (.slice Av o.length cv) (.int .i64 R.out) (.int .i64 0) (.int .i64 0)
                    go_wp2_with fail
                    refine read_end_net hB6w b3 rr hdef6 (n0 := w6.heap.size + 2) (n1 := n1) hz6' hok.out.out hP6 hn6 hI64 hG6 hbase6 hkp6 rfl rfl rfl HR0.out
                  · have HEC := hid hec
                    have hz2 : (ec != 0) = true := bne_iff_ne.2 hec
                    have HR0 := hid (show readP s = (noNet, 0, ec) by rw [HRE.out]; unfold endO; simp only []; rw [if_neg hec])
                    clear hec
                    go_wp2_with fail
                    have hRd : Res3 w.heap.size (.slice none 0 0) (.slice none 0 0) (.int .i64 0) (.int .i64 0) (.int .i64 ec) W6.drew := R6
                    have hBd : Below w.heap.size w W6.drew := below_drewN hB6w 1
                    have hdefd : W6.drew.heap[w.heap.size + 6]? = some (.deferred (some [])) := hdef6
                    obtain ⟨⟨f0, c0⟩, ⟨f1, c1⟩, ⟨f2, c2⟩, ⟨f3, c3⟩, ⟨f4, c4⟩, rr, b3⟩ := put3 hRd (.slice none 0 0) (.slice none 0 0) (.int .i64 0) (.int .i64 0) (.int .i64 ec)
                    have hN := (hRd.net (.slice none 0 0) (.slice none 0 0) (.int .i64 0)).1
                    have hN2 := hN.line (.int .i64 0)
                    have hN3 := hN2.err (.int .i64 ec)
                    clear ce6
                    refine wp_region_noPanic ?_
                    refine wp_region_held_drew (S := fun w' => Res3 w.heap.size (.slice none 0 0) (.slice none 0 0) (.int .i64 0) (.int .i64 0) (.int .i64 ec) w') (by kernel_rfl) hRd (fun hHeld => ?_)
                    clear R6 hB6w hdef6 A6 q6 hP6 hn6 hG6 hkp6
                    generalize W6.drew = Wx at *
                    refine wpAnyH_take (i := 0) (v := ?vq13) rfl (by kernel_rfl) (by kernel_rfl) (by kernel_rfl) (fun _ _ _ h => h) (Or.inl ⟨by rfl, ?yq13⟩) hHeld ?_
                    case yq13 => (intro w' hSw; have hSe := cell_row hSw.2.2 (j := 0) rfl; clear hSw; go_simp); (try with_reducible rfl)
                    try simp only [Act.put, List.setIfInBounds_toArray, List.set_cons_zero, List.set_cons_succ]
                    refine wpAnyH_take (i := 1) (v := ?vq14) rfl (by kernel_rfl) (by kernel_rfl) (by kernel_rfl) (fun _ _ _ h => h) (Or.inl ⟨by rfl, ?yq14⟩) hHeld ?_
                    case yq14 => (intro w' hSw; have hSe := cell_row hSw.2.2 (j := 0) rfl; clear hSw; go_simp); (try with_reducible rfl)
                    try simp only [Act.put, List.setIfInBounds_toArray, List.set_cons_zero, List.set_cons_succ]
                    refine wpAnyH_ready (rs := [2]) (by kernel_rfl) (by simp) ?_
                    refine AllReadyH.cons rfl (fun Kc hKc => ?_) AllReadyH.nil
                    go_simp
                    refine hKc.out _ _ hN (fun hHeld => ?_)
                    clear hKc Kc
                    try simp only [Act.put, List.setIfInBounds_toArray, List.set_cons_zero, List.set_cons_succ]
                    refine wpAnyH_ready (rs := [3]) (by kernel_rfl) (by simp) ?_
                    refine AllReadyH.cons rfl (fun Kc hKc => ?_) AllReadyH.nil
                    go_simp
                    refine hKc.out _ _ hN2 (fun hHeld => ?_)
                    clear hKc Kc
                    try simp only [Act.put, List.setIfInBounds_toArray, List.set_cons_zero, List.set_cons_succ]
                    refine wpAnyH_ready (rs := [4]) (by kernel_rfl) (by simp) ?_
                    refine AllReadyH.cons rfl (fun Kc hKc => ?_) AllReadyH.nil
                    go_simp
                    refine hKc.out _ _ hN3 (fun hHeld => ?_)
                    clear hKc Kc
                    try simp only [Act.put, List.setIfInBounds_toArray, List.set_cons_zero, List.set_cons_succ]
                    refine wpAnyH_done (by kernel_rfl) ?_ _
                    refine NoPanic.normal ?_
                    go_wp2_with fail
                    exact read_end_err (D := w.heap.size + 6) hBd b3 rr hdefd (by omega) rfl rfl rfl HR0.out
    case stop =>
      rintro c pre W hpre ⟨rfl, no, ec, hne, hread, hI, hR, hBW⟩ hdef
      have HRD2 := hid hread
      have hz2 : (ec != 0) = true := bne_iff_ne.2 hne
      have ce := cell_row hR.2.2 (j := 0) rfl
      have cl := cell_row hR.2.1 (j := 0) rfl
      clear hne hread
      go_wp2_with fail
      have hRd : Res3 w.heap.size (.slice none 0 0) (.slice none 0 0) (.int .i64 0) (.int .i64 (no : Int)) (.int .i64 ec) W.drew := hR
      have hBd : Below w.heap.size w W.drew := below_drewN hBW 1
      obtain ⟨⟨f0, c0⟩, ⟨f1, c1⟩, ⟨f2, c2⟩, ⟨f3, c3⟩, ⟨f4, c4⟩, rr, b3⟩ := put3 hRd (.slice none 0 0) (.slice none 0 0) (.int .i64 0) (.int .i64 (no : Int)) (.int .i64 ec)
      have hN := (hRd.net (.slice none 0 0) (.slice none 0 0) (.int .i64 0)).1
      have hN2 := hN.line (.int .i64 (no : Int))
      have hN3 := hN2.err (.int .i64 ec)
      clear ce cl
      refine wp_region_noPanic ?_
      refine wp_region_held_drew (S := fun w' => Res3 w.heap.size (.slice none 0 0) (.slice none 0 0) (.int .i64 0) (.int .i64 (no : Int)) (.int .i64 ec) w') (by kernel_rfl) hRd (fun hHeld => ?_)
      have hdefd : W.drew.heap[w6.heap.size]? = some (.deferred (some [])) := hdef
      clear hdef hR hBW hI
      generalize W.drew = Wd at *
      refine wpAnyH_take (i := 0) (v := ?ve0) rfl (by kernel_rfl) (by kernel_rfl) (by kernel_rfl) (fun _ _ _ h => h) (Or.inl ⟨by rfl, ?ye0⟩) hHeld ?_
      case ye0 => (intro w' hSw; have hSl := cell_row hSw.2.1 (j := 0) rfl; have hSe := cell_row hSw.2.2 (j := 0) rfl; clear hSw; go_simp); (try with_reducible rfl)
      try simp only [Act.put, List.setIfInBounds_toArray, List.set_cons_zero, List.set_cons_succ]
      refine wpAnyH_take (i := 1) (v := ?ve1) rfl (by kernel_rfl) (by kernel_rfl) (by kernel_rfl) (fun _ _ _ h => h) (Or.inl ⟨by rfl, ?ye1⟩) hHeld ?_
      case ye1 => (intro w' hSw; have hSl := cell_row hSw.2.1 (j := 0) rfl; have hSe := cell_row hSw.2.2 (j := 0) rfl; clear hSw; go_simp); (try with_reducible rfl)
      try simp only [Act.put, List.setIfInBounds_toArray, List.set_cons_zero, List.set_cons_succ]
      refine wpAnyH_take (i := 2) (v := ?ve2) rfl (by kernel_rfl) (by kernel_rfl) (by kernel_rfl) (fun _ _ _ h => h) (Or.inl ⟨by rfl, ?ye2⟩) hHeld ?_
      case ye2 => (intro w' hSw; have hSl := cell_row hSw.2.1 (j := 0) rfl; have hSe := cell_row hSw.2.2 (j := 0) rfl; clear hSw; go_simp); (try with_reducible rfl)
      try simp only [Act.put, List.setIfInBounds_toArray, List.set_cons_zero, List.set_cons_succ]
      refine wpAnyH_ready (rs := [3]) (by kernel_rfl) (by simp) ?_
      refine AllReadyH.cons rfl (fun Kc hKc => ?_) AllReadyH.nil
      go_simp
      refine hKc.out _ _ hN (fun hHeld => ?_)
      clear hKc Kc
      try simp only [Act.put, List.setIfInBounds_toArray, List.set_cons_zero, List.set_cons_succ]
      refine wpAnyH_ready (rs := [4]) (by kernel_rfl) (by simp) ?_
      refine AllReadyH.cons rfl (fun Kc hKc => ?_) AllReadyH.nil
      go_simp
      refine hKc.out _ _ hN2 (fun hHeld => ?_)
      clear hKc Kc
      try simp only [Act.put, List.setIfInBounds_toArray, List.set_cons_zero, List.set_cons_succ]
      refine wpAnyH_ready (rs := [5]) (by kernel_rfl) (by simp) ?_
      refine AllReadyH.cons rfl (fun Kc hKc => ?_) AllReadyH.nil
      go_simp
      refine hKc.out _ _ hN3 (fun hHeld => ?_)
      clear hKc Kc
      try simp only [Act.put, List.setIfInBounds_toArray, List.set_cons_zero, List.set_cons_succ]
      refine wpAnyH_done (by kernel_rfl) ?_ _
      refine NoPanic.normal ?_
      go_wp2_with fail
      exact read_end_err (D := w.heap.size + 6) hBd b3 rr (by rw [← hz6]; exact hdefd) (by omega) rfl rfl rfl HRD2.out
end Go.Proofs.YtnlobmepajakcaaGreatDoor
