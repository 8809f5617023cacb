/- The document's reader in memory; what block of it does; the condition: texts have at most 2^22 bytes. -/
import Derived.Test.YtnlobmepajakcaaGreatDoorZRtE
import Derived.Test.YtnlobmepajakcaaGreatDoorZRdX
import Derived.Deep.RegionHeld3
import Derived.Deep.AppendLies
set_option linter.unusedVariables false
set_option linter.unusedSimpArgs false
namespace Go.Proofs.YtnlobmepajakcaaGreatDoor
open Go.RowKit Go.Shelf
attribute [local go_sem] Oper.semAt_some

def stg (R : RS) : Int := if R.done = true then 2 else if R.begun = true then 1 else 0
/-- The document's reader in memory: its block r, the block q of what has been seen. -/
structure RwAt (w : World) (r q : Nat) (pv gv av : Value) (R : RS) : Prop where
  row : w.heap[r]? = some (.cells #[pv, gv, .int .i64 R.out, .slice (some ⟨q, 0, none⟩) 65537 65537, .int .i64 (R.vars : Int), .int .i64 (R.lits : Int), .int .i64 (stg R), av] 111 (0, 0))
  seen : SetAt w q 4 R.seen
  ne : r ≠ q
theorem RwAt.heap {w w' : World} {r q : Nat} {pv gv av : Value} {R : RS} (h : RwAt w r q pv gv av R) (h1 : w'.heap[r]? = w.heap[r]?) (h2 : w'.heap[q]? = w.heap[q]?) : RwAt w' r q pv gv av R := ⟨h1.trans h.row, h.seen.heap h2, h.ne⟩
theorem RwAt.below {w w' : World} {r q : Nat} {pv gv av : Value} {R : RS} (h : RwAt w r q pv gv av R) (hB : Below w.heap.size w w') : RwAt w' r q pv gv av R := h.heap (hB.block r (row_lt h.row)) (hB.block q h.seen.lt)
theorem RwAt.grown {w w' : World} {r q : Nat} {pv gv av : Value} {R : RS} (h : RwAt w r q pv gv av R) {row : Option Nat} (hg : w.grownBy w' row) (h1 : row ≠ some r) (h2 : row ≠ some q) : RwAt w' r q pv gv av R :=
  h.heap (hg.block r (row_lt h.row) (fun e => h1 e.symm)) (hg.block q h.seen.lt (fun e => h2 e.symm))
/-- A cell of the reader's block is put. -/
theorem RwAt.put {w : World} {r q : Nat} {pv gv av pv' gv' av' : Value} {R R' : RS} (h : RwAt w r q pv gv av R) (i : Nat) (v : Value) (hs : R'.seen = R.seen)
    (hc : (#[pv, gv, .int .i64 R.out, .slice (some ⟨q, 0, none⟩) 65537 65537, .int .i64 (R.vars : Int), .int .i64 (R.lits : Int), .int .i64 (stg R), av] : Array Value).setIfInBounds i v = #[pv', gv', .int .i64 R'.out, .slice (some ⟨q, 0, none⟩) 65537 65537, .int .i64 (R'.vars : Int), .int .i64 (R'.lits : Int), .int .i64 (stg R'), av']) :
    RwAt (w.setCell ⟨r, i, none⟩ v) r q pv' gv' av' R' := by
  refine ⟨?_, ?_, h.ne⟩
  · rw [← hc]; exact row_set h.row (i := i) v
  · rw [hs]; exact h.seen.heap (heap_setCell_other w ⟨r, i, none⟩ q v (fun e => h.ne e.symm))
theorem addBlock_nil (p : List PBlock) (ex : Bool) : addBlock p ex [] = p := by
  rcases List.eq_nil_or_concat p with rfl | ⟨init, x, rfl⟩
  · rfl
  · by_cases h : x.ex = ex
    · rw [List.concat_eq_append, addBlock_same h]; simp
    · rw [List.concat_eq_append, addBlock_other (fun y hy => by rw [List.getLast?_concat] at hy; injection hy with hy; rw [← hy]; exact h), if_pos rfl]
section
variable {ops : Array Oper} {o : Oper} {a : Act} {Q : Exit → Act → World → Prop} {K : Act → World → Prop} {E : Prop}
/-- append of a list of one's own that is not empty, at a step of a region that draws its order. -/
theorem step_append_intsQ {W : World} (base b2 : Nat) (hgd : o.guard = none) (s x : Operand) (ho : o.op = .call { callee := .builtin .append, args := #[s, x], argTypes := #[48, 48] })
    (v : Value) (n : Nat) (xs : List Int) (g m cap : Nat) (ys : List Int) (hs : a.eval s = v) (hx : a.eval x = .slice (some ⟨g, 0, none⟩) m cap)
    (HO : W.ownsRow base 3 1 v n (nums xs)) (HY : W.ownsRow b2 3 1 (.slice (some ⟨g, 0, none⟩) m cap) m (nums ys)) (hm : 0 < m) (hbase : base ≤ W.heap.size) (hl : (n + m) * 8 ≤ 140737488355328)
    (h : ∀ g cap w1, w1.ownsRow base 3 1 (.slice (some ⟨g, 0, none⟩) (n + m) cap) (n + m) (nums (xs ++ ys)) → W.grownBy w1 v.ownBlock → (v.ownBlock = some g ∨ g = W.heap.size) → g < w1.heap.size → K (a.put o.dst (.slice (some ⟨g, 0, none⟩) (n + m) cap)) w1) :
    if Region.wanted o (yielded ops a.tmps) = true then Oper.wp Tryz.prog o a W K Q else E := by
  obtain ⟨i0, hi, hzz⟩ := Option.map_eq_some_iff.1 info3
  simp only [Prod.mk.injEq] at hzz
  obtain ⟨hz0, hz1, hz2⟩ := hzz
  have hml : (nums ys).length = m * 1 := HY.1
  refine step_append_lies (w := W) hgd s x 48 ho base 3 i0 (.int .i64 0) 1 8 Tryz.underlying48 hi hz0 hz1 hz2 rfl (by decide) v n (nums xs) hs HO ⟨g, 0, none⟩ m cap (nums ys) hx hml (fun j u hj => HY.cells rfl j u hj)
    (fun u hu => ?_) hm (by simp only [maxLen]; omega) hl hbase W.heap.size rfl (fun g cap w' h1 h2 h3 h4 => h g cap w' ?_ h2 h3 h4)
  · obtain ⟨z, _, rfl⟩ := List.mem_map.1 hu; rfl
  · have e : nums (xs ++ ys) = nums xs ++ nums ys := List.map_append
    rw [e]; exact h1
end
set_option maxRecDepth 100000 in
set_option maxHeartbeats 4000000 in
theorem blockR_any (n0 r q : Nat) (pv gv av : Value) (R : RS) (ex : Bool) (l : List Int) (A : Option Addr) (c : Nat) (wL w : World) (hA : RwAt w r q pv gv av R) (hrn : r < n0) (hqn : q < n0) (hn0 : n0 ≤ wL.heap.size) (hsW : wL.heap.size ≤ w.heap.size)
    (hOut : OutAt wL n0 pv R.pre) (hKW : ∀ k, n0 ≤ k → k < wL.heap.size → w.heap[k]? = wL.heap[k]?) (hl : w.ownsRow wL.heap.size 3 1 (.slice A l.length c) l.length (nums l)) (hpl : R.pre.length ≤ 4194305) (hvl : (varsOf R.pre).length ≤ 1024) (hll : l.length ≤ 4194306)
    (hp64 : ∀ x ∈ R.pre, ∀ y ∈ x.vars, I64 y) :
    Calls Tryz.prog 109 #[.pointer (some ⟨r, 0, none⟩), .bool ex, .slice A l.length c] w fun e w' => e = .returned (.tuple #[]) ∧ Fr n0 r w w' ∧ ∃ pv', RwAt w' r q pv' gv av { R with pre := addBlock R.pre ex l } ∧ OutAt w' n0 pv' (addBlock R.pre ex l) := by
  have hO : OutAt w n0 pv R.pre := hOut.keepB hsW hKW
  have hnw : n0 ≤ w.heap.size := by omega
  obtain ⟨Ap, cp, rfl, hpl9⟩ := hO.form
  obtain ⟨xs, hxs⟩ := hO.row
  have c0 := cell_row hA.row (j := 0) (v := .slice Ap R.pre.length cp) rfl
  have f0 := frozen_of_row _ _ 0 _ _ hA.row
  have hwLB : Below (cutW w wL.heap.size).heap.size (cutW w wL.heap.size) w := cutW_below hsW
  have hOutC : OutAt (cutW w wL.heap.size) n0 (.slice Ap R.pre.length cp) R.pre := hOut.keepB (by rw [cutW_size hsW]; exact Nat.le_refl _) (fun k hk hk2 => (cutW_at w _ k hk2).trans (hKW k hk hk2))
  by_cases hl0 : l = []
  · subst hl0
    rw [addBlock_nil]
    have hneg : decide ((0 : Int) ≤ IntKind.i64.wrap ((R.pre.length : Int) - 1)) = true ∨ True := .inr trivial
    clear hneg
    have hw1 : IntKind.i64.wrap ((R.pre.length : Int) - 1) = (R.pre.length : Int) - 1 := IntWalk.i64_in _ (by omega)
    clear hOut hl hxs hOutC hpl9 hKW hp64
    go_enter Tryz.func109, Tryz.ntmps109
    go_wp2_with fail
    go_end0
    exact ⟨rfl, Fr.refl _ _ _, _, hA, hO⟩
  · have hlz : ((l.length : Int) == 0) = false := beq_eq_false_iff_ne.2 (by have := List.length_pos_iff.2 hl0; omega)
    have hlp : 0 < l.length := List.length_pos_iff.2 hl0
    by_cases hp0 : R.pre = []
    · have hlen0 : R.pre.length = 0 := by rw [hp0]; rfl
      have HEq := hid (show addBlock R.pre ex l = R.pre ++ [⟨ex, l⟩] by rw [addBlock_other (fun x hx => by rw [hp0] at hx; cases hx), if_neg hl0])
      have HL0 := hid hlen0
      rw [hlen0] at c0 hxs hOutC hA
      have hb32 : (0 + 1) * 32 ≤ 140737488355328 := by omega
      have HO := hid hO
      clear hp0 hl0 hlen0 hpl hpl9 hO
      go_enter Tryz.func109, Tryz.ntmps109
      have hno : ∀ k, k < n0 → (Value.slice Ap (0) cp).ownBlock ≠ some k := fun k hk e => by
        have := (hxs.lt k e).1
        omega
      have HNX : Hid (∀ w9, w.grownBy w9 (Value.slice Ap (0) cp).ownBlock → RwAt w9 r q (.slice Ap (0) cp) gv av R ∧ w9.cell? ⟨r, 0, none⟩ = some (.slice Ap (0) cp) ∧ w9.frozen? ⟨r, 0, none⟩ = false) := hid (fun w9 hG9 => by
        have hA9 := hA.grown hG9 (hno r hrn) (hno q hqn)
        exact ⟨hA9, cell_row hA9.row (j := 0) rfl, frozen_of_row _ _ 0 _ _ hA9.row⟩)
      replace hno := hid hno
      go_wp2_with (first | (at_builtin; refine append_one n0 rfl _ _ 37 71 (.agg #[.bool false, .slice none 0 0]) 2 32 rfl Tryz.underlying37 info80 rfl (by decide) (by decide) (.slice Ap (0) cp) (0) xs #[.bool ex, .slice A l.length c] rfl rfl rfl (by intro u hu; simp at hu; rcases hu with rfl | rfl <;> rfl) hxs hnw hb32 ?_; intro g2 cap2 w9 hO9 hG9 hg9 hbg hlt9; obtain ⟨hA9, c9, f9⟩ := HNX.out w9 hG9) | fail)
      go_end0
      rw [HEq.out]
      have hr10 : w9.grownBy (w9.setCell ⟨r, 0, none⟩ (.slice (some ⟨g2, 0, none⟩) ((0) + 1) cap2)) (some r) := grown_setCell w9 ⟨r, 0, none⟩ _
      have hO10 : OutAt w9 n0 (.slice (some ⟨g2, 0, none⟩) ((0) + 1) cap2) (R.pre ++ [⟨ex, l⟩]) := by
        refine OutAt.push (w := w) hOutC hp64 hwLB (x2 := ⟨ex, l⟩) (vl2 := .slice A l.length c) (own_lower hl hn0) (fun k e => by rw [cutW_size hsW]; exact (hl.lt k e).1) (fun xs' h' => ?_) hG9 (fun k e => by cases e; exact hg9)
        rw [HL0.out] at h'
        rw [HL0.out, own_unique h' hxs]; exact hO9
      exact ⟨rfl, ((Fr.refl n0 r w).grown hnw hG9 (fun k e => .inr (Nat.le_of_not_lt (fun hk => hno.out k hk e)))).grown (by have := hG9.size; omega) hr10 (fun k e => by cases e; exact .inl rfl), _, hA9.put 0 _ rfl rfl, hO10.keepB hr10.size (fun k hk hk2 => hr10.block k hk2 (by intro e; injection e with e; omega))⟩
    · rcases hO with ⟨h0, -⟩ | ⟨init, y, vi, vl, e1, h2, h3, h4, h4b, h5⟩
      · exact absurd h0 hp0
      have hlen : R.pre.length = init.length + 1 := by rw [e1]; simp
      obtain ⟨go, co2, eo, hgo1, hgo2, hgo3⟩ := own_form h3 (by omega)
      injection eo with eo1 eo2 eo3
      subst eo1
      subst eo3
      obtain ⟨ni, hni⟩ : ∃ ni, init.length = ni := ⟨_, rfl⟩
      rw [hlen] at h3
      obtain ⟨hl0', hl1'⟩ := last_cells h2 h3
      have hl2 := fun j => h3.frozenAt j
      rw [hni] at hl0' hl1' hlen
      rw [hlen] at c0 hxs hOutC hA hpl
      have hgr : go ≠ r := by omega
      have hw1 : IntKind.i64.wrap ((ni : Int) + 1 - 1) = ni := by rw [show (ni : Int) + 1 - 1 = ni by omega]; exact IntWalk.i64_in _ (by omega)
      have hw2 : IntKind.i64.wrap (ni : Int) = ni := IntWalk.i64_in _ (by omega)
      have hm0 : 0 ≤ (ni : Int) := by omega
      have HL0 := hid hlen
      have hyb : y.vars.length ≤ 1024 := by
        have h1 := vars_len (p := R.pre) (x := y) (by rw [e1]; simp)
        omega
      by_cases hye : y.ex = ex
      · rw [hye] at hl0'
        have HEq := hid (show addBlock R.pre ex l = init ++ [⟨y.ex, y.vars ++ l⟩] by rw [e1, addBlock_same hye])
        have H3 := hid h3
        have H2 := hid h2
        have H4 := hid h4
        have H4B := hid h4b
        have H5 := hid h5
        have HNI := hid hni
        have hee : (ex == ex) = true := beq_self_eq_true ex
        obtain ⟨gl, cl, eA, hgl1, hgl2, hgl3⟩ := own_form hl hlp
        injection eA with eA1 eA2 eA3
        subst eA1
        subst eA3
        have A1 : RwAt w.drew r q (.slice (some ⟨go, 0, none⟩) (ni + 1) cp) gv av R := hA.heap rfl rfl
        have B3 : w.drew.ownsRow n0 71 2 (.slice (some ⟨go, 0, none⟩) (ni + 1) cp) (ni + 1) (bcells init vi ++ [.bool y.ex, vl]) := by have := H3.out; rw [HNI.out] at this; exact this
        have B4 : w.drew.ownsRow n0 3 1 vl y.vars.length (nums y.vars) := h4
        have B5 := (show w.drew.ownsRow wL.heap.size 3 1 _ l.length (nums l) from hl)
        have B6 : w.drew.cell? ⟨go, ni * 2 + 1, none⟩ = some vl := hl1'
        have BF : Fr n0 r w w.drew := ⟨rfl, rfl, rfl, Nat.le_refl _, fun _ _ _ => rfl⟩
        have BN : n0 ≤ w.drew.heap.size := hnw
        have B8 : Hid (∀ (i : Nat) (z : PBlock) (v : Value), init[i]? = some z → vi[i]? = some v → IntsAt w.drew v z.vars ∧ ∀ b, v.ownBlock = some b → vl.ownBlock ≠ some b ∧ (Value.slice (some ⟨go, 0, none⟩) R.pre.length cp).ownBlock ≠ some b ∧ b < w.drew.heap.size ∧ n0 ≤ b) := hid (fun i z v h1 h2 => H5.out i z v h1 h2)
        have hb8 : (y.vars.length + l.length) * 8 ≤ 140737488355328 := by omega
        have HB3 := hid B3
        clear e1 h2 h3 h4b h5 hni hp0 hlen hpl9 hye hl0 hxs hOutC B3
        go_enter Tryz.func109, Tryz.ntmps109
        go_wp2_with fail
        refine wp_region_held_drew (S := fun W => W.cell? ⟨r, 0, none⟩ = some (.slice (some ⟨go, 0, none⟩) (ni + 1) cp)) (by kernel_rfl) (show w.drew.cell? ⟨r, 0, none⟩ = _ from c0) (fun hHeld => ?_)
        clear c0 f0 hl1' hl2 hA h4 hl H3 H5 hl0' hwLB
        generalize w.drew = Wd at *
        refine wpAnyH_take (i := 0) (v := ?vn1) rfl (by kernel_rfl) (by kernel_rfl) (by kernel_rfl) (fun _ _ _ h => h) (Or.inl ⟨by rfl, ?yn1⟩) hHeld ?_
        case yn1 => (intro w' hSw; (try dsimp only at hSw); go_simp); (try with_reducible rfl)
        try simp only [Act.put, List.setIfInBounds_toArray, List.set_cons_zero, List.set_cons_succ]
        refine wpAnyH_take (i := 1) (v := ?vn2) rfl (by kernel_rfl) (by kernel_rfl) (by kernel_rfl) (fun _ _ _ h => h) (Or.inl ⟨by rfl, ?yn2⟩) hHeld ?_
        case yn2 => (intro w' hSw; (try dsimp only at hSw); go_simp); (try with_reducible rfl)
        try simp only [Act.put, List.setIfInBounds_toArray, List.set_cons_zero, List.set_cons_succ]
        refine wpAnyH_take (i := 2) (v := ?vn3) rfl (by kernel_rfl) (by kernel_rfl) (by kernel_rfl) (fun _ _ _ h => h) (Or.inl ⟨by rfl, ?yn3⟩) hHeld ?_
        case yn3 => (intro w' hSw; (try dsimp only at hSw); go_simp); (try with_reducible rfl)
        try simp only [Act.put, List.setIfInBounds_toArray, List.set_cons_zero, List.set_cons_succ]
        refine wpAnyH_take (i := 3) (v := ?vn4) rfl (by kernel_rfl) (by kernel_rfl) (by kernel_rfl) (fun _ _ _ h => h) (Or.inl ⟨by rfl, ?yn4⟩) hHeld ?_
        case yn4 => (intro w' hSw; (try dsimp only at hSw); go_simp); (try with_reducible rfl)
        try simp only [Act.put, List.setIfInBounds_toArray, List.set_cons_zero, List.set_cons_succ]
        refine wpAnyH_take (i := 4) (v := ?vn5) rfl (by kernel_rfl) (by kernel_rfl) (by kernel_rfl) (fun _ _ _ h => h) (Or.inl ⟨by rfl, ?yn5⟩) hHeld ?_
        case yn5 => (intro w' hSw; (try dsimp only at hSw); go_simp); (try with_reducible rfl)
        try simp only [Act.put, List.setIfInBounds_toArray, List.set_cons_zero, List.set_cons_succ]
        refine wpAnyH_take (i := 5) (v := ?vn6) rfl (by kernel_rfl) (by kernel_rfl) (by kernel_rfl) (fun _ _ _ h => h) (Or.inl ⟨by rfl, ?yn6⟩) hHeld ?_
        case yn6 => (intro w' hSw; (try dsimp only at hSw); go_simp); (try with_reducible rfl)
        try simp only [Act.put, List.setIfInBounds_toArray, List.set_cons_zero, List.set_cons_succ]
        refine wpAnyH_take (i := 6) (v := ?vn7) rfl (by kernel_rfl) (by kernel_rfl) (by kernel_rfl) (fun _ _ _ h => h) (Or.inl ⟨by rfl, ?yn7⟩) hHeld ?_
        case yn7 => (intro w' hSw; (try dsimp only at hSw); go_simp); (try with_reducible rfl)
        try simp only [Act.put, List.setIfInBounds_toArray, List.set_cons_zero, List.set_cons_succ]
        refine wpAnyH_take (i := 7) (v := ?vn8) rfl (by kernel_rfl) (by kernel_rfl) (by kernel_rfl) (fun _ _ _ h => h) (Or.inl ⟨by rfl, ?yn8⟩) hHeld ?_
        case yn8 => (intro w' hSw; (try dsimp only at hSw); go_simp); (try with_reducible rfl)
        try simp only [Act.put, List.setIfInBounds_toArray, List.set_cons_zero, List.set_cons_succ]
        refine wpAnyH_take (i := 8) (v := ?vn9) rfl (by kernel_rfl) (by kernel_rfl) (by kernel_rfl) (fun _ _ _ h => h) (Or.inl ⟨by rfl, ?yn9⟩) hHeld ?_
        case yn9 => (intro w' hSw; (try dsimp only at hSw); go_simp); (try with_reducible rfl)
        try simp only [Act.put, List.setIfInBounds_toArray, List.set_cons_zero, List.set_cons_succ]
        refine wpAnyH_take (i := 9) (v := ?vn10) rfl (by kernel_rfl) (by kernel_rfl) (by kernel_rfl) (fun _ _ _ h => h) (Or.inl ⟨by rfl, ?yn10⟩) hHeld ?_
        case yn10 => (intro w' hSw; (try dsimp only at hSw); go_simp); (try with_reducible rfl)
        try simp only [Act.put, List.setIfInBounds_toArray, List.set_cons_zero, List.set_cons_succ]
        refine wpAnyH_take (i := 10) (v := ?vn11) rfl (by kernel_rfl) (by kernel_rfl) (by kernel_rfl) (fun _ _ _ h => h) (Or.inl ⟨by rfl, ?yn11⟩) hHeld ?_
        case yn11 => (intro w' hSw; (try dsimp only at hSw); go_simp); (try with_reducible rfl)
        try simp only [Act.put, List.setIfInBounds_toArray, List.set_cons_zero, List.set_cons_succ]
        refine wpAnyH_take (i := 11) (v := ?vn12) rfl (by kernel_rfl) (by kernel_rfl) (by kernel_rfl) (fun _ _ _ h => h) (Or.inl ⟨by rfl, ?yn12⟩) hHeld ?_
        case yn12 => (intro w' hSw; (try dsimp only at hSw); go_simp); (try with_reducible rfl)
        try simp only [Act.put, List.setIfInBounds_toArray, List.set_cons_zero, List.set_cons_succ]
        refine wpAnyH_take (i := 12) (v := ?vn13) rfl (by kernel_rfl) (by kernel_rfl) (by kernel_rfl) (fun _ _ _ h => h) (Or.inl ⟨by rfl, ?yn13⟩) hHeld ?_
        case yn13 => (intro w' hSw; (try dsimp only at hSw); go_simp; rw [if_pos (by omega)]); (try with_reducible rfl)
        try simp only [Act.put, List.setIfInBounds_toArray, List.set_cons_zero, List.set_cons_succ]
        refine wpAnyH_take (i := 13) (v := ?vn14) rfl (by kernel_rfl) (by kernel_rfl) (by kernel_rfl) (fun _ _ _ h => h) (Or.inl ⟨by rfl, ?yn14⟩) hHeld ?_
        case yn14 => (intro w' hSw; (try dsimp only at hSw); go_simp); (try with_reducible rfl)
        try simp only [Act.put, List.setIfInBounds_toArray, List.set_cons_zero, List.set_cons_succ]
        refine wpAnyH_take (i := 15) (v := ?vn15) rfl (by kernel_rfl) (by kernel_rfl) (by kernel_rfl) (fun _ _ _ h => h) (Or.inl ⟨by rfl, ?yn15⟩) hHeld ?_
        case yn15 => (intro w' hSw; (try dsimp only at hSw); go_simp); (try with_reducible rfl)
        try simp only [Act.put, List.setIfInBounds_toArray, List.set_cons_zero, List.set_cons_succ]
        refine wpAnyH_ready (rs := [14]) (by kernel_rfl) (by simp) ?_
        refine AllReadyH.cons rfl (fun Kc hKc => ?_) AllReadyH.nil
        go_simp
        refine hKc.out _ _ hHeld (fun hHeld => ?_)
        clear hKc Kc
        try simp only [Act.put, List.setIfInBounds_toArray, List.set_cons_zero, List.set_cons_succ]
        refine wpAnyH_ready (rs := [16]) (by kernel_rfl) (by simp) ?_
        refine AllReadyH.cons rfl (fun Kc hKc => ?_) AllReadyH.nil
        refine step_append_intsQ (W := Wd) n0 wL.heap.size (by rfl) _ _ (by rfl) vl y.vars.length y.vars gl l.length _ l (by rfl) (by rfl) B4 B5 hlp BN hb8 ?_
        intro g9 cap9 w9 hO9 hG9 hb9 hlt9
        have hvb : ∀ k, vl.ownBlock = some k → n0 ≤ k := fun k e => (B4.lt k e).1
        have A9 := A1.grown hG9 (fun e => by have := hvb r e; omega) (fun e => by have := hvb q e; omega)
        have hS9 := cell_row A9.row (j := 0) (v := .slice (some ⟨go, 0, none⟩) (ni + 1) cp) rfl
        have hl1e : w9.cell? ⟨go, ni * 2 + 1, none⟩ = some vl := hG9.cell B6 (by intro e; exact H4B.out go e.symm rfl)
        have hl2e := (HB3.out.kept hG9 (by right; intro e; exact H4B.out go e.symm rfl)).frozenAt (ni * 2 + 1)
        refine hKc.out _ _ hS9 (fun hHeld => ?_)
        clear hKc Kc
        try simp only [Act.put, List.setIfInBounds_toArray, List.set_cons_zero, List.set_cons_succ]
        refine wpAnyH_take (i := 17) (v := ?vn16) rfl (by kernel_rfl) (by kernel_rfl) (by kernel_rfl) (fun _ _ _ h => h) (Or.inl ⟨by rfl, ?yn16⟩) hHeld ?_
        case yn16 => (intro w' hSw; (try dsimp only at hSw); go_simp; rw [if_pos (by omega)]); (try with_reducible rfl)
        try simp only [Act.put, List.setIfInBounds_toArray, List.set_cons_zero, List.set_cons_succ]
        refine wpAnyH_take (i := 18) (v := ?vn17) rfl (by kernel_rfl) (by kernel_rfl) (by kernel_rfl) (fun _ _ _ h => h) (Or.inl ⟨by rfl, ?yn17⟩) hHeld ?_
        case yn17 => (intro w' hSw; (try dsimp only at hSw); go_simp); (try with_reducible rfl)
        try simp only [Act.put, List.setIfInBounds_toArray, List.set_cons_zero, List.set_cons_succ]
        have g10 : w9.grownBy (w9.setCell ⟨go, ni * 2 + 1, none⟩ (.slice (some ⟨g9, 0, none⟩) (y.vars.length + l.length) cap9)) (some go) := grown_setCell w9 ⟨go, ni * 2 + 1, none⟩ _
        have A10 := A9.grown g10 (by intro e; injection e with e; exact hgr e) (by intro e; injection e with e; have : n0 ≤ go := hgo1; omega)
        have hS10 := cell_row A10.row (j := 0) (v := .slice (some ⟨go, 0, none⟩) (ni + 1) cp) rfl
        refine wpAnyH_ready (rs := [19]) (by kernel_rfl) (by simp) ?_
        refine AllReadyH.cons rfl (fun Kc hKc => ?_) AllReadyH.nil
        go_simp
        refine hKc.out _ _ hS10 (fun hHeld => ?_)
        clear hKc Kc
        try simp only [Act.put, List.setIfInBounds_toArray, List.set_cons_zero, List.set_cons_succ]
        refine wpAnyH_done (by kernel_rfl) ?_ _
        go_wp2_with fail
        go_end0
        rw [HEq.out]
        have hcb : ∀ k, (Value.slice (some ⟨g9, 0, none⟩) (y.vars.length + l.length) cap9).ownBlock = some k → vl.ownBlock = some k ∨ Wd.heap.size ≤ k := fun k e => by
          rcases hb9 with h | h
          · exact .inl (h.trans e)
          · right; injection e with e; have e' : g9 = k := e; omega
        have hO9' : w9.ownsRow n0 3 1 (.slice (some ⟨g9, 0, none⟩) (y.vars.length + l.length) cap9) (y.vars ++ l).length (nums (y.vars ++ l)) := by rw [List.length_append]; exact hO9
        have RR := OutAt.ext H2.out (by rw [HNI.out]; exact HB3.out) B4 (fun q hq e => H4B.out q hq (by rw [e]; rfl)) (fun i z v hz hv => by
          obtain ⟨k1, k2⟩ := B8.out i z v hz hv
          exact ⟨k1, fun q hq => ⟨(k2 q hq).1, (fun e => (k2 q hq).2.1 (by rw [e]; rfl)), (k2 q hq).2.2.1, (k2 q hq).2.2.2⟩⟩) hO9' hG9 hcb
        rw [HNI.out] at RR
        exact ⟨rfl, (BF.grown BN hG9 (fun k e => .inr (hvb k e))).grown (by have := hG9.size; omega) g10 (fun k e => by cases e; exact .inr hgo1), _, ⟨A10.row, A10.seen, A10.ne⟩, RR⟩
      · have HEq := hid (show addBlock R.pre ex l = R.pre ++ [⟨ex, l⟩] by rw [addBlock_other (fun x hx => by rw [e1, List.getLast?_concat] at hx; injection hx with hx; rw [← hx]; exact hye), if_neg hl0])
        have hee : (y.ex == ex) = false := beq_eq_false_iff_ne.2 hye
        have hb32 : (ni + 1 + 1) * 32 ≤ 140737488355328 := by omega
        clear e1 h2 h3 h4 h4b h5 hni hp0 hlen hpl9 hye hl0
        go_enter Tryz.func109, Tryz.ntmps109
        have hno : ∀ k, k < n0 → (Value.slice (some ⟨go, 0, none⟩) (ni + 1) cp).ownBlock ≠ some k := fun k hk e => by
          have := (hxs.lt k e).1
          omega
        have HNX : Hid (∀ w9, w.grownBy w9 (Value.slice (some ⟨go, 0, none⟩) (ni + 1) cp).ownBlock → RwAt w9 r q (.slice (some ⟨go, 0, none⟩) (ni + 1) cp) gv av R ∧ w9.cell? ⟨r, 0, none⟩ = some (.slice (some ⟨go, 0, none⟩) (ni + 1) cp) ∧ w9.frozen? ⟨r, 0, none⟩ = false) := hid (fun w9 hG9 => by
          have hA9 := hA.grown hG9 (hno r hrn) (hno q hqn)
          exact ⟨hA9, cell_row hA9.row (j := 0) rfl, frozen_of_row _ _ 0 _ _ hA9.row⟩)
        replace hno := hid hno
        go_wp2_with (first | (at_builtin; refine append_one n0 rfl _ _ 37 71 (.agg #[.bool false, .slice none 0 0]) 2 32 rfl Tryz.underlying37 info80 rfl (by decide) (by decide) (.slice (some ⟨go, 0, none⟩) (ni + 1) cp) (ni + 1) xs #[.bool ex, .slice A l.length c] rfl rfl rfl (by intro u hu; simp at hu; rcases hu with rfl | rfl <;> rfl) hxs hnw hb32 ?_; intro g2 cap2 w9 hO9 hG9 hg9 hbg hlt9; obtain ⟨hA9, c9, f9⟩ := HNX.out w9 hG9) | fail)
        go_end0
        rw [HEq.out]
        have hr10 : w9.grownBy (w9.setCell ⟨r, 0, none⟩ (.slice (some ⟨g2, 0, none⟩) ((ni + 1) + 1) cap2)) (some r) := grown_setCell w9 ⟨r, 0, none⟩ _
        have hO10 : OutAt w9 n0 (.slice (some ⟨g2, 0, none⟩) ((ni + 1) + 1) cap2) (R.pre ++ [⟨ex, l⟩]) := by
          refine OutAt.push (w := w) hOutC hp64 hwLB (x2 := ⟨ex, l⟩) (vl2 := .slice A l.length c) (own_lower hl hn0) (fun k e => by rw [cutW_size hsW]; exact (hl.lt k e).1) (fun xs' h' => ?_) hG9 (fun k e => by cases e; exact hg9)
          rw [HL0.out] at h'
          rw [HL0.out, own_unique h' hxs]; exact hO9
        exact ⟨rfl, ((Fr.refl n0 r w).grown hnw hG9 (fun k e => .inr (Nat.le_of_not_lt (fun hk => hno.out k hk e)))).grown (by have := hG9.size; omega) hr10 (fun k e => by cases e; exact .inl rfl), _, hA9.put 0 _ rfl rfl, hO10.keepB hr10.size (fun k hk hk2 => hr10.block k hk2 (by intro e; injection e with e; omega))⟩
end Go.Proofs.YtnlobmepajakcaaGreatDoor
