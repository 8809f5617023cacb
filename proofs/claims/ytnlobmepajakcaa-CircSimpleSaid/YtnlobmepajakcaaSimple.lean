/- What circ.simple does; the conditions: the net is valid, the assignment's variables lie within 65,536, and the prefix without them is valid. -/
import Derived.Test.YtnlobmepajakcaaEndP
import Derived.Deep.RegionHeld3
set_option linter.unusedVariables false
set_option linter.unusedSimpArgs false
namespace Go.Proofs.Ytnlobmepajakcaa
open Go.RowKit Go.Shelf
attribute [local go_sem] Oper.semAt_some

theorem grown_far {w W W' : World} {row0 row : Option Nat} (h : w.grownBy W row0) (k : W.grownBy W' row) (hr : ∀ r, row = some r → w.heap.size ≤ r) : w.grownBy W' row0 :=
  ⟨k.os.trans h.os, k.tape.trans h.tape, k.output.trans h.output, Nat.le_trans h.size k.size, fun i hi hne => (k.block i (Nat.lt_of_lt_of_le hi h.size) (fun e => by have := hr i e.symm; omega)).trans (h.block i hi hne)⟩
theorem KeepX.old {n₀ : Nat} {X : Nat → Prop} {T : TypeId} {A B : World} (h : KeepX n₀ X T A B) {k : Nat} (hk : k < A.heap.size) (hn : k < n₀) (hx : ¬ X k) : B.heap[k]? = A.heap[k]? :=
  h.block k hk (fun h' => h'.elim hx (fun h => by omega))
theorem KeepX.oldCell {n₀ : Nat} {X : Nat → Prop} {T : TypeId} {A B : World} (h : KeepX n₀ X T A B) {a : Addr} {v : Value} (hv : A.cell? a = some v) (hn : a.block < n₀) (hx : ¬ X a.block) : B.cell? a = some v :=
  (World.cell?_of_block (h.old (World.block_lt_of_cell? A a hv) hn hx)).trans hv
theorem KeepX.set {n₀ : Nat} {X : Nat → Prop} {T : TypeId} {A B : World} (h : KeepX n₀ X T A B) (a : Addr) (v : Value) (hx : X a.block) : KeepX n₀ X T A (B.setCell a v) :=
  h.grown (grown_setCell B a v) (fun r e => .inl (.inl (by injection e with e; rw [← e]; exact hx)))
theorem fixM_snoc (T : Int) (M : Nat → Int) (a : List Int) (l : Int) : fixM T M (a ++ [l]) = upd (fixM T M a) (absN l) (if l < 0 then -T else T) := by simp [fixM]
theorem take_snoc {α : Type} {xs : List α} {k : Nat} {x : α} (h : xs[k]? = some x) : xs.take (k + 1) = xs.take k ++ [x] := by rw [List.take_add_one, h]; rfl
theorem BndM.vars {vs : List Int} : ∀ {M : Nat → Int}, BndM M → (∀ y ∈ vs, 0 ≤ y ∧ y ≤ 65536) → BndM (varM M vs) := by
  induction vs with
  | nil => intro M h _; exact h
  | cons x vs ih =>
    intro M h hv
    have hx := hv x (by simp)
    exact ih (h.upd _ (by omega) (by omega)) (fun y hy => hv y (by simp [hy]))
theorem BndM.fix {a : List Int} : ∀ {M : Nat → Int}, BndM M → BndM (fixM 65537 M a) := by
  induction a with
  | nil => intro M h; exact h
  | cons x a ih =>
    intro M h
    exact ih (h.upd _ (by split <;> omega) (by split <;> omega))
theorem lit_le {gs : List PGate} : ∀ {g : PGate}, g ∈ gs → g.ins.length ≤ litSum gs := by
  induction gs with
  | nil => intro g h; cases h
  | cons x gs ih =>
    intro g h
    rcases List.mem_cons.1 h with rfl | h
    · simp [litSum]
    · have := ih h
      simp [litSum] at this ⊢; omega
theorem make26 (n : Nat) (h : n ≤ 1099511627776) (W : World) : (Instr.makeSlice 26 (.int .i64 (n : Int)) (.int .i64 (n : Int))).run Try.prog W = .ok (.slice (some ⟨W.heap.size, 0, none⟩) n n) (W.alloc (.cells (madeCells #[.int .i64 0] n) 3)) := by
  obtain ⟨i0, hi, hzz⟩ := Option.map_eq_some_iff.1 info3
  simp only [Prod.mk.injEq] at hzz
  obtain ⟨hz0, hz1, hz2⟩ := hzz
  have := run_make (P := Try.prog) W 26 3 i0 (.int .i64 0) Try.underlying26 hi hz0 .i64 .i64 n n (by omega) (Int.le_refl _) (by rw [hz2]; omega) (by omega)
  rw [hz1, Nat.mul_one, Int.toNat_natCast] at this
  exact this
theorem made_get (n j : Nat) (h : j < n) : (madeCells #[Value.int .i64 0] n)[j]? = some (.int .i64 0) := by
  unfold madeCells
  simp [h, Nat.mod_one]
theorem made_size (n : Nat) : (madeCells #[Value.int .i64 0] n).size = n := by simp [madeCells]
/-- A row of numbers the first of which are reckoned. -/
def halfRow (n : Nat) (ys : List Int) : List Value := nums (ys ++ List.replicate (n - ys.length) 0)
theorem half_start (n : Nat) : (madeCells #[Value.int .i64 0] n).toList = halfRow n [] := by
  apply List.ext_getElem?
  intro j
  unfold halfRow nums
  by_cases h : j < n
  · have := made_get n j h
    simp only [Array.getElem?_toList]
    rw [this]
    simp [h]
  · rw [List.getElem?_eq_none (by simp [made_size]; omega), List.getElem?_eq_none (by simp; omega)]
theorem half_set {n : Nat} {ys : List Int} (h : ys.length < n) (y : Int) : (halfRow n ys).set ys.length (.int .i64 y) = halfRow n (ys ++ [y]) := by
  unfold halfRow nums
  rw [← List.map_set, List.set_append_right _ _ (Nat.le_refl _), Nat.sub_self]
  obtain ⟨m, hm⟩ : ∃ m, n - ys.length = m + 1 := ⟨n - ys.length - 1, by omega⟩
  have hm2 : n - (ys ++ [y]).length = m := by simp; omega
  rw [hm, hm2, List.replicate_succ]
  simp
theorem half_full (ys : List Int) : halfRow ys.length ys = nums ys := by unfold halfRow; rw [Nat.sub_self]; simp
theorem half_len {n : Nat} {ys : List Int} (h : ys.length ≤ n) : (halfRow n ys).length = n := by unfold halfRow nums; simp; omega
theorem row_set {w : World} {b i : Nat} {cs : Array Value} {t : TypeId} {fr : Nat × Nat} (h : w.heap[b]? = some (.cells cs t fr)) (v : Value) : (w.setCell ⟨b, i, none⟩ v).heap[b]? = some (.cells (cs.setIfInBounds i v) t fr) := by
  unfold World.setCell
  rw [Array.getElem?_modify, if_pos rfl, h]
  rfl
theorem row_put3 {w : World} {b : Nat} {a0 a1 a2 : Value} {t : TypeId} {fr : Nat × Nat} (h : w.heap[b]? = some (.cells #[a0, a1, a2] t fr)) (x k : Int) (v : Value) : (put3 w b x k v).heap[b]? = some (.cells #[.int .i64 x, .int .u8 k, v] t fr) :=
  row_set (row_set (row_set h _) _) _
/-- A statement that no tactic takes by chance. -/
structure BoxP (p : Prop) : Prop where
  out : p
theorem varM_snoc (M : Nat → Int) (vs : List Int) (v : Int) : varM M (vs ++ [v]) = upd (varM M vs) v.toNat v := by simp [varM]

set_option maxRecDepth 100000 in
set_option maxHeartbeats 4000000 in
theorem simple_any (v va : Value) (N : PNet) (a : List Int) (w : World) (h : NetAt w v N) (ha : IntsAt w va a) (hM : mayP N = true) (hvp : ∀ y ∈ varsOf N.pre, 0 ≤ y ∧ y ≤ 65536)
    (hlits : ∀ g ∈ N.gates, ∀ l ∈ g.ins, -65536 ≤ l ∧ l ≤ 65536) (hout : -65536 ≤ N.out ∧ N.out ≤ 65536) (hgl : N.gates.length ≤ 1000000) (hpl : N.pre.length ≤ 65536) (hpx : ∀ x ∈ N.pre, x.vars ≠ [] ∧ x.vars.length ≤ 65536 ∧ ∀ y ∈ x.vars, 0 ≤ y ∧ y ≤ 65536) (hws : (prefFrom none 0 noS (withoutP (markS noS a) N.pre)).isSome = true) :
    Calls Try.prog 46 #[v, va] w fun e w' => Below w.heap.size w w' ∧ ∃ v', e = .returned v' ∧ NetF w.heap.size w' v' (simpleP 65537 N a) := by
  have hbm : BndM (fixM 65537 (varM noM (varsOf N.pre)) a) := (BndM.vars (fun i => by unfold noM; omega) hvp).fix
  have HBM := hid hbm
  clear hbm
  obtain ⟨-, hlit, -⟩ := mayP_pre hM
  have hgates := mayP_gates hM
  have HGA := hid hgates
  clear hgates hM
  obtain ⟨vp, vg, rfl, ho, hp, hgt⟩ := h
  obtain ⟨Ap, cp, rfl, hlp, hcp⟩ := hp.form
  obtain ⟨Ag, cg, rfl, hlg, hcg⟩ := hgt.form
  obtain ⟨Aa, ca, rfl, hla, hca⟩ := ha.form
  obtain ⟨w1, hw1, hc1, -, hz1, hB1, hrow1⟩ := new_block w #[.slice Ap N.pre.length cp, .slice Ag N.gates.length cg, .int .i64 N.out] 25
  obtain ⟨w2, hw2, hc2, hf2, hz2, hB2, hrow2⟩ := new_block w1 #[.slice none 0 0, .slice none 0 0, .int .i64 0] 25
  obtain ⟨w3, hw3⟩ : ∃ w3, w2.alloc (.cells Try.zeroCells124 124) = w3 := ⟨_, rfl⟩
  have hM3 : MeanAt w3 w2.heap.size 124 noM := by rw [← hw3]; exact mean_new w2 124
  have hz3 : w3.heap.size = w2.heap.size + 1 := by rw [← hw3]; exact World.size_alloc _ _
  have hB3 : Below w2.heap.size w2 w3 := by rw [← hw3]; exact (Below.refl _ w2).alloc (Nat.le_refl _) _
  have hB03 := below_then (below_then hB1 hB1.size hB2) (by omega) hB3
  have n0 : w3.cell? ⟨w.heap.size, 0, none⟩ = some (.slice Ap N.pre.length cp) := keeps_below hB3 _ _ (keeps_below hB2 _ _ (hc1 0 _ rfl))
  have n1 : w3.cell? ⟨w.heap.size, 1, none⟩ = some (.slice Ag N.gates.length cg) := keeps_below hB3 _ _ (keeps_below hB2 _ _ (hc1 1 _ rfl))
  have n2 : w3.cell? ⟨w.heap.size, 2, none⟩ = some (.int .i64 N.out) := keeps_below hB3 _ _ (keeps_below hB2 _ _ (hc1 2 _ rfl))
  have r4 := row_below hrow2 hB3
  have r2 := row_below (row_below hrow1 hB2) hB3
  rw [hz1] at hz2 hrow2 r4
  rw [hz2] at hz3 hM3
  have CV := vars_any Ap N.pre.length cp w3
  clear hc1 hc2 hf2
  refine callsIn_wide.1 (callsIn_of_wp_marks (n := 0) Try.func46 rfl trivial ?_ rfl)
  simp only [Try.ntmps46, List.size_toArray, List.length_cons, List.length_nil, Nat.reduceAdd, Nat.reduceSub, Array.replicate_succ, Array.replicate_zero, List.push_toArray, List.append_toArray, List.nil_append, List.cons_append]
  refine wpIn_wide.2 ?_
  go_wp2_with (go_at_call 56; refine CV.mono ?_; rintro e w' ⟨rfl, hw'⟩)
  obtain ⟨w4, hw4, hc4, -, hz4, hB4, hrow4⟩ := new_block w3 #[.slice Ap N.pre.length cp] 22
  rw [hw4] at hw' ⊢
  clear hw'
  have hbx : w4.cell? ⟨w.heap.size + 1 + 1 + 1, 0, none⟩ = some (.slice Ap N.pre.length cp) := by rw [← hz3]; exact hc4 0 _ rfl
  have hM4 := hM3.below hB4
  have hB04 := below_then hB03 hB03.size hB4
  have hM4' : MeanAt w4 (w.heap.size + 1 + 1) 124 (varM noM []) := hM4
  refine wp_rangeFunc_R (gf := 91) (lb := #[.pointer (some ⟨w.heap.size + 1 + 1 + 1, 0, none⟩)]) (encs := fun x : Int => #[.int .i64 x]) (Kp := KeepX w.heap.size (fun k => k = w.heap.size + 1 + 1) 124) (row0 := none) (xs := varsOf N.pre) (Fin := fun _ => True) (w0 := w4) rfl (enters_of Try.func91 (by kernel_rfl) rfl)
    (vars_seq hcp hbx (Nat.le_refl _) (fun k h => by omega) hp hB04) (fun _ _ _ _ _ => trivial) (fun r e => by cases e) KeepX.trans KeepX.record (Below.refl _ _) (fun x => rfl)
    (fun pre W => w4.grownBy W (some (w.heap.size + 1 + 1)) ∧ MeanAt W (w.heap.size + 1 + 1) 124 (varM noM pre)) (fun _ _ _ => False)
    (fun s A B row hs hG hr => by
      have hne : ∀ r, row = some r → w4.heap.size ≤ r := fun r e => (hr r e).elim (fun h => by cases h) (fun h => h.1)
      exact ⟨grown_far hs.1 hG hne, hs.2.kept hG (fun e => by have := hne _ e; omega)⟩)
    (fun c s A B row hs hG hr => hs) ⟨grown_of_below (Below.refl _ _) _, hM4'⟩ ?round ?done ?stop
  case round =>
    rintro l pre x rest W K hxs hl ⟨hG, hM⟩ hK
    have hx := hvp x (by rw [hxs]; simp)
    dsimp only
    gi_wp2
    refine hK _ _ (KeepsFrom.refl _ _) (KeepX.refl _ _ _ _) ⟨hG, hM⟩ (fun Wb hgb ho hr hIb => ?_)
    obtain ⟨hGb, hMb⟩ := hIb
    clear hK
    obtain ⟨k, rfl⟩ := Int.eq_ofNat_of_zero_le hx.1
    have hk : k < 65537 := by omega
    have hck := hMb.cell k hk
    have hfk := hMb.free k
    have hk2 : (k : Int) < 65537 := by omega
    have hk0 : 0 ≤ (k : Int) := by omega
    have hMb2 := hMb.store k k
    have HMB := hid hMb2
    clear hMb hMb2 hM hx
    gi_wp2
    refine ⟨(KeepsOthers.setCell _ _ _).from _, (KeepX.refl _ _ _ _).grown (grown_setCell _ _ _) (fun r e => .inl (.inl (by injection e with e; exact e.symm))), hGb.trans (grown_setCell _ _ _), ?_⟩
    rw [varM_snoc]; exact HMB.out
  case stop =>
    rintro D c pre W _ _ h _
    exact h.elim
  case done =>
    rintro D W5 hD ⟨hG5, hM5⟩ - hdef
    have hD2 : D < W5.heap.size := row_lt hdef
    obtain ⟨W6, hW6, hS7, hz6, hB6⟩ := new_set W5 86
    obtain ⟨W7, hW7, hS8, hz7, hB7⟩ := new_set W6 86
    obtain ⟨W8, hW8, hS9, hz8, hB8⟩ := new_set W7 86
    have eS7 := (hS7.below hB7).below hB8
    have eS8 := hS8.below hB8
    have hB58 := below_then (below_then hB6 hB6.size hB7) (by omega) hB8
    have eM := hM5.below hB58
    have eD := row_below hdef hB58
    rw [hz6] at eS8 hz7
    rw [hz7] at hS9 hz8
    have hg58 := hG5.trans (grown_of_below hB58 (some (w.heap.size + 1 + 1)))
    have hne2 : ∀ v, some (Addr.block ⟨w.heap.size, v, none⟩) ≠ some (w.heap.size + 1 + 1) := fun v e => by injection e with e; have e' : w.heap.size = w.heap.size + 1 + 1 := e; omega
    have m0 := hg58.cell (keeps_below hB4 _ _ n0) (hne2 0)
    have m1 := hg58.cell (keeps_below hB4 _ _ n1) (hne2 1)
    have m2 := hg58.cell (keeps_below hB4 _ _ n2) (hne2 2)
    have hB0W8 : Below w.heap.size w W8 := hB04.grown hg58 hB04.size (fun r e => by injection e with e; omega)
    clear hS7 hS8 hM5 hdef hne2
    have hlt5 : w.heap.size + 1 + 1 < w4.heap.size := by omega
    have hW54 := hG5.size
    go_wp2_with fail
    go_loopg [11, 32] a.length (fun gg _ s32 wr => ∃ k : Nat, k ≤ a.length ∧ a.length - k ≤ gg ∧ s32 = .int .i64 k ∧ KeepX W8.heap.size (fun b => b = w.heap.size + 1 + 1 ∨ b = W5.heap.size) 0 W8 wr ∧
      SetAt wr W5.heap.size 86 (markS noS (a.take k)) ∧ MeanAt wr (w.heap.size + 1 + 1) 124 (fixM 65537 (varM noM (varsOf N.pre)) (a.take k)))
    case atStart => exact ⟨0, Nat.zero_le _, by omega, rfl, KeepX.refl _ _ _ _, eS7, eM⟩
    case round =>
      obtain ⟨k, hk, hgk, rfl, hK, hS, hM⟩ := hrel
      by_cases hlt : k < a.length
      · obtain ⟨y, hy, -, -⟩ := nth hlt
        have hBa : Below w.heap.size w wr := hK.toBelow hB0W8 (by omega) (fun b hb => by omega)
        obtain ⟨ba, offa, rfl, hcy, -⟩ := (ha.keep (keeps_below hBa)).at_ k y hy
        have hq := absN_lt y
        have hltz : (k : Int) < (a.length : Int) := by omega
        have hne75 : W5.heap.size ≠ w.heap.size + 1 + 1 := by omega
        have Cy : ∀ W, Calls Try.prog 59 #[.int .i64 y] W fun e w' => e = .returned (.int .i64 (absN y : Int)) ∧ w' = W := fun W => abs_any y W
        have htk : markS noS (a.take (k + 1)) = upd (markS noS (a.take k)) (absN y) true := by rw [take_snoc hy, markS_snoc]
        have htm : fixM 65537 (varM noM (varsOf N.pre)) (a.take (k + 1)) = upd (fixM 65537 (varM noM (varsOf N.pre)) (a.take k)) (absN y) (if y < 0 then -65537 else 65537) := by rw [take_snoc hy, fixM_snoc]
        have HTK := hid htk
        have HTM := hid htm
        clear htk htm hy
        revert hq Cy HTK HTM
        generalize absN y = q
        intro hq Cy HTK HTM
        have hq2 : (q : Int) < 65537 := by omega
        have hq0 : 0 ≤ (q : Int) := by omega
        have c1 := hS.cell q hq
        have f1 := hS.free q
        have hS1 := hS.store q true
        have hM1 := hM.kept (grown_setCell wr ⟨W5.heap.size, q, none⟩ (.bool true)) (by intro e; injection e with e; exact hne75 e)
        have c2 := hM1.cell q hq
        have f2 := hM1.free q
        have hM2 := hM1.store q 65537
        have hS2 := hS1.kept (grown_setCell (wr.setCell ⟨W5.heap.size, q, none⟩ (.bool true)) ⟨w.heap.size + 1 + 1, q, none⟩ (.int .i64 65537)) (by intro e; injection e with e; exact hne75 e.symm)
        have hK2 := (hK.set ⟨W5.heap.size, q, none⟩ (.bool true) (.inr rfl)).set ⟨w.heap.size + 1 + 1, q, none⟩ (.int .i64 65537) (.inl rfl)
        by_cases hy0 : y < 0
        · have c3 := hM2.cell q hq
          have f3 := hM2.free q
          have e3 : upd (fixM 65537 (varM noM (varsOf N.pre)) (a.take k)) q 65537 q = 65537 := by unfold upd; rw [if_pos rfl]
          rw [e3] at c3
          have hM3 := hM2.store q (-65537)
          have e4 : upd (upd (fixM 65537 (varM noM (varsOf N.pre)) (a.take k)) q 65537) q (-65537) = upd (fixM 65537 (varM noM (varsOf N.pre)) (a.take k)) q (-65537) := by
            funext j; unfold upd; split <;> rfl
          rw [e4] at hM3
          have hS3 := hS2.kept (grown_setCell ((wr.setCell ⟨W5.heap.size, q, none⟩ (.bool true)).setCell ⟨w.heap.size + 1 + 1, q, none⟩ (.int .i64 65537)) ⟨w.heap.size + 1 + 1, q, none⟩ (.int .i64 (-65537))) (by intro e; injection e with e; exact hne75 e.symm)
          have hK3 := hK2.set ⟨w.heap.size + 1 + 1, q, none⟩ (.int .i64 (-65537)) (.inl rfl)
          have e5 : (if y < 0 then (-65537 : Int) else 65537) = -65537 := if_pos hy0
          rw [e5] at HTM
          have HM3 := hid hM3
          have HS3 := hid hS3
          have HK3 := hid hK3
          clear e3 e4 e5 hS hM hM1 hM2 hS1 hS2 hK2 hM3 hS3 hK3 hK
          go_wp2_with (go_at_call 59; refine (Cy _).mono ?_; rintro e w' ⟨rfl, rfl⟩)
          go_roundg (a.length - (k + 1))
          case measure => omega
          case rel => exact ⟨k + 1, by omega, by omega, by go_num, HK3.out, by rw [HTK.out]; exact HS3.out, by rw [HTM.out]; exact HM3.out⟩
        · have e5 : (if y < 0 then (-65537 : Int) else 65537) = 65537 := if_neg hy0
          rw [e5] at HTM
          have HM2 := hid hM2
          have HS2 := hid hS2
          have HK2 := hid hK2
          have hy1 : decide (y < 0) = false := decide_eq_false hy0
          clear e5 hS hM hM1 hM2 hS1 hS2 hK2 hK hy0
          go_wp2_with (go_at_call 59; refine (Cy _).mono ?_; rintro e w' ⟨rfl, rfl⟩)
          go_roundg (a.length - (k + 1))
          case measure => omega
          case rel => exact ⟨k + 1, by omega, by omega, by go_num, HK2.out, by rw [HTK.out]; exact HS2.out, by rw [HTM.out]; exact HM2.out⟩
      · have hltz : ¬ (k : Int) < (a.length : Int) := by omega
        have p0 := hK.oldCell m0 (by show w.heap.size < _; omega) (by show ¬ (w.heap.size = _ ∨ w.heap.size = _); omega)
        have p1 := hK.oldCell m1 (by show w.heap.size < _; omega) (by show ¬ (w.heap.size = _ ∨ w.heap.size = _); omega)
        have p2 := hK.oldCell m2 (by show w.heap.size < _; omega) (by show ¬ (w.heap.size = _ ∨ w.heap.size = _); omega)
        have hk' : k = a.length := by omega
        rw [List.take_of_length_le (by omega : a.length ≤ k)] at hS hM
        clear hk' hltz
        have hltz : ¬ (k : Int) < (a.length : Int) := by omega
        go_wp2_with fail
        obtain ⟨W9, rfl⟩ : ∃ W9, W9 = wr := ⟨_, rfl⟩
        have hsz9 := hK.size
        have hX8 : ∀ b, b < W8.heap.size → b ≠ w.heap.size + 1 + 1 → b ≠ W5.heap.size → W9.heap[b]? = W8.heap[b]? := fun b h1 h2 h3 => hK.old h1 h1 (by rintro (h | h); exact h2 h; exact h3 h)
        have hB9 : Below w.heap.size w W9 := hK.toBelow hB0W8 (by omega) (fun b hb => by omega)
        have hb5 : w.heap.size + 1 + 1 < W9.heap.size := by omega
        have hS8' := eS8.heap (hX8 _ (by omega) (by omega) (by omega))
        have hS9' := hS9.heap (hX8 _ (by omega) (by omega) (by omega))
        have hD9 := (hX8 D (by omega) (by omega) (by omega)).trans eD
        have r49 : W9.heap[w.heap.size + 1]? = some (.cells #[.slice none 0 0, .slice none 0 0, .int .i64 0] 25 (0, 0)) := (hX8 _ (by omega) (by omega) (by omega)).trans (row_grown (row_below r4 hB4) hg58 (by intro e; injection e with e; omega))
        clear hX8 eS8 hS9 eD eS7 eM m0 m1 m2 n0 n1 n2 r4 r2 hG5 hbx hrow4 hM4 hM4' hM3 hK
        go_loopg [13, 17, 18, 52] N.gates.length (fun gg s13 _ _ s52 wr => ∃ (k : Nat) (M : Nat → Int) (stay : List PGate), k ≤ N.gates.length ∧ N.gates.length - k ≤ gg ∧ s52 = .int .i64 k ∧ W9.grownBy wr (some (w.heap.size + 1 + 1)) ∧ MeanAt wr (w.heap.size + 1 + 1) 124 M ∧ Aside (BndM M) ∧
          StayAt wr W9.heap.size s13 stay ∧ stay.length ≤ k ∧ Rem (gatesP 65537 (fixM 65537 (varM noM (varsOf N.pre)) a) N.gates) ((N.gates.drop k).foldl (gateStep 65537) (M, stay)))
        case atStart => exact ⟨0, _, [], Nat.zero_le _, by omega, rfl, grown_of_below (Below.refl _ _) _, hM, HBM.out, StayAt.nil _ _, Nat.le_refl _, ⟨rfl⟩⟩
        case round =>
          obtain ⟨k2, M, stay, hk2, hgk2, rfl, hG, hMr, hbM, hSt, hsl, hA⟩ := hrel
          clear hM
          by_cases hlt2 : k2 < N.gates.length
          · obtain ⟨g, hgx, hgm, hgd⟩ := nth hlt2
            have hBr : Below w.heap.size w wr := hB9.grown hG hB9.size (fun r e => by injection e with e; omega)
            obtain ⟨bg, offg, vi, eA, hc0, hc1, hc2, hi, h64, hkd0, hkd1⟩ := (hgt.keep (keeps_below hBr)).at_ k2 g hgx
            subst eA
            obtain ⟨Ai, ci, rfl, hli, hci⟩ := hi.form
            have hltz2 : (k2 : Int) < (N.gates.length : Int) := by omega
            obtain ⟨wA, hwA, hcA, hfA, hzA, hBA, hrowA⟩ := new_block wr #[.int .i64 g.var, .int .u8 g.kind, .slice Ai g.ins.length ci] 70
            have x0 : wA.cell? ⟨wr.heap.size, 0, none⟩ = some (.int .i64 g.var) := hcA 0 _ rfl
            have x1 : wA.cell? ⟨wr.heap.size, 1, none⟩ = some (.int .u8 g.kind) := hcA 1 _ rfl
            have x2 : wA.cell? ⟨wr.heap.size, 2, none⟩ = some (.slice Ai g.ins.length ci) := hcA 2 _ rfl
            clear hgx hcA
            have hlen : g.ins.length ≤ 200000 := Nat.le_trans (lit_le hgm) hlit
            go_wp2_with fail
            have hmk := make26 g.ins.length (by omega)
            refine (fun (H : Hid ?G) => ?main) ?key
            case main =>
              go_region_held3 (fun w' => w'.cell? ⟨wr.heap.size, 0, none⟩ = some (.int .i64 g.var) ∧ w'.cell? ⟨wr.heap.size, 1, none⟩ = some (.int .u8 g.kind) ∧ w'.cell? ⟨wr.heap.size, 2, none⟩ = some (.slice Ai g.ins.length ci)) (go_keep) (fail)
              · obtain ⟨wB, hwB, hcB, -, hzB, hBB, hrowB⟩ := new_block wA (madeCells #[.int .i64 0] g.ins.length) 3
                rw [hzA] at hrowB
                obtain ⟨wC, hwC, hcC, -, hzC, hBC, hrowC⟩ := new_block wB #[.int .i64 g.var, .int .u8 g.kind, .slice (some ⟨wr.heap.size + 1, 0, none⟩) g.ins.length g.ins.length] 70
                rw [hzB, hzA] at hrowC
                rw [hwB, hwC]
                obtain ⟨WB, hWB⟩ : ∃ WB, wC.drew = WB := ⟨_, rfl⟩
                have q1 : WB.heap = wC.heap := by rw [← hWB]; rfl
                have F1 : Below wr.heap.size wr WB := by
                  have h1 : Below wr.heap.size wr wC := below_then (below_then hBA (by omega) hBB) (by omega) hBC
                  rw [← hWB]; exact h1.drew
                have F2 : WB.heap[wr.heap.size + 1 + 1]? = some (.cells #[.int .i64 g.var, .int .u8 g.kind, .slice (some ⟨wr.heap.size + 1, 0, none⟩) g.ins.length g.ins.length] 70 (0, 0)) := by rw [q1]; exact hrowC
                have F3 : WB.heap[wr.heap.size + 1]? = some (.cells (madeCells #[.int .i64 0] g.ins.length) 3 (0, 0)) := by rw [q1]; exact row_below hrowB hBC
                have F4 : WB.heap[wr.heap.size]? = some (.cells #[.int .i64 g.var, .int .u8 g.kind, .slice Ai g.ins.length ci] 70 (0, 0)) := by rw [q1]; exact row_below (row_below hrowA hBB) hBC
                have F5 : WB.heap.size = wr.heap.size + 3 := by rw [q1]; omega
                rw [hWB]
                clear hWB q1 hwC hcC hzC hBC hrowC hwB hcB hzB hBB hrowB
                obtain ⟨b16, hb16⟩ : ∃ b, b = wr.heap.size + 1 + 1 := ⟨_, rfl⟩
                obtain ⟨bH, hbH⟩ : ∃ b, b = wr.heap.size + 1 := ⟨_, rfl⟩
                rw [← hb16] at F2 ⊢
                rw [← hbH] at F2 F3 ⊢
                have F6 : wr.heap.size < b16 ∧ wr.heap.size < bH ∧ b16 ≠ bH ∧ b16 < WB.heap.size ∧ bH < WB.heap.size := by omega
                clear hb16 hbH
                have PP := And.intro F1 (And.intro F2 (And.intro F3 (And.intro F4 (And.intro F5 F6))))
                clear F1 F2 F3 F4 F5 F6
                revert PP
                revert bH
                revert b16
                revert WB
                exact H
              · obtain ⟨wB, hwB, hcB, -, hzB, hBB, hrowB⟩ := new_block wA #[.int .i64 g.var, .int .u8 g.kind, .slice (some ⟨wr.heap.size + 1 + 1, 0, none⟩) g.ins.length g.ins.length] 70
                rw [hzA] at hrowB
                obtain ⟨wC, hwC, hcC, -, hzC, hBC, hrowC⟩ := new_block wB (madeCells #[.int .i64 0] g.ins.length) 3
                rw [hzB, hzA] at hrowC
                rw [hwB, hwC]
                obtain ⟨WB, hWB⟩ : ∃ WB, wC.drew = WB := ⟨_, rfl⟩
                have q1 : WB.heap = wC.heap := by rw [← hWB]; rfl
                have F1 : Below wr.heap.size wr WB := by
                  have h1 : Below wr.heap.size wr wC := below_then (below_then hBA (by omega) hBB) (by omega) hBC
                  rw [← hWB]; exact h1.drew
                have F2 : WB.heap[wr.heap.size + 1]? = some (.cells #[.int .i64 g.var, .int .u8 g.kind, .slice (some ⟨wr.heap.size + 1 + 1, 0, none⟩) g.ins.length g.ins.length] 70 (0, 0)) := by rw [q1]; exact row_below hrowB hBC
                have F3 : WB.heap[wr.heap.size + 1 + 1]? = some (.cells (madeCells #[.int .i64 0] g.ins.length) 3 (0, 0)) := by rw [q1]; exact hrowC
                have F4 : WB.heap[wr.heap.size]? = some (.cells #[.int .i64 g.var, .int .u8 g.kind, .slice Ai g.ins.length ci] 70 (0, 0)) := by rw [q1]; exact row_below (row_below hrowA hBB) hBC
                have F5 : WB.heap.size = wr.heap.size + 3 := by rw [q1]; omega
                rw [hWB]
                clear hWB q1 hwC hcC hzC hBC hrowC hwB hcB hzB hBB hrowB
                obtain ⟨bH, hbH⟩ : ∃ b, b = wr.heap.size + 1 + 1 := ⟨_, rfl⟩
                obtain ⟨b16, hb16⟩ : ∃ b, b = wr.heap.size + 1 := ⟨_, rfl⟩
                rw [← hbH] at F2 F3 ⊢
                rw [← hb16] at F2 ⊢
                have F6 : wr.heap.size < b16 ∧ wr.heap.size < bH ∧ b16 ≠ bH ∧ b16 < WB.heap.size ∧ bH < WB.heap.size := by omega
                clear hb16 hbH
                have PP := And.intro F1 (And.intro F2 (And.intro F3 (And.intro F4 (And.intro F5 F6))))
                clear F1 F2 F3 F4 F5 F6
                revert PP
                revert bH
                revert b16
                revert WB
                exact H
            case key =>
              clear hmk
              refine hid ?_
              rintro WB b16 bH ⟨F1, F2, F3, F4, F5, F6⟩
              have F7 := F4
              obtain ⟨As, cs, rfl, hAs1, hAs2⟩ := hSt.form
              have y2 : WB.cell? ⟨wr.heap.size, 2, none⟩ = some (.slice Ai g.ins.length ci) := cell_row F4 rfl
              have F3' : WB.ownsRow bH 3 1 (.slice (some ⟨bH, 0, none⟩) g.ins.length g.ins.length) g.ins.length (halfRow g.ins.length []) :=
                ⟨by rw [half_len (Nat.zero_le _), Nat.mul_one], .inr ⟨bH, g.ins.length, madeCells #[.int .i64 0] g.ins.length, rfl, Nat.le_refl _, F3, Nat.le_refl _, by simp only [maxLen]; omega, by rw [made_size, Nat.mul_one], by
                  rw [← half_start, List.take_of_length_le (by simp [made_size])]⟩⟩
              go_wp2_with fail
              obtain ⟨V, rfl⟩ : ∃ V, V = wr := ⟨_, rfl⟩
              go_loopg [17, 18, 68] g.ins.length (fun gg _ _ s68 W' => ∃ j : Nat, j ≤ g.ins.length ∧ g.ins.length - j ≤ gg ∧ s68 = .int .i64 j ∧ WB.grownBy W' (some bH) ∧ W'.ownsRow bH 3 1 (.slice (some ⟨bH, 0, none⟩) g.ins.length g.ins.length) g.ins.length (halfRow g.ins.length ((g.ins.take j).map (meanL M))))
              case atStart => exact ⟨0, Nat.zero_le _, by omega, rfl, grown_of_below (Below.refl _ _) _, F3'⟩
              case round =>
                obtain ⟨j, hj, hgj, rfl, hGj, hOj⟩ := hrel
                clear F3' F3
                have hBj : Below V.heap.size V wr := F1.grown hGj F1.size (fun r e => by injection e with e; omega)
                have hMj : MeanAt wr (w.heap.size + 1 + 1) 124 M := hMr.below hBj
                by_cases hltj : j < g.ins.length
                · obtain ⟨y, hy, hym, hdy⟩ := nth hltj
                  obtain ⟨by1, by2⟩ := hlits g hgm y hym
                  obtain ⟨b2, off2, rfl, hcy, -⟩ := (hi.keep (keeps_below hBj)).at_ j y hy
                  have hltzj : (j : Int) < (g.ins.length : Int) := by omega
                  have hj0 : 0 ≤ (j : Int) := by omega
                  have z2 : wr.cell? ⟨b16, 2, none⟩ = some (.slice (some ⟨bH, 0, none⟩) g.ins.length g.ins.length) := hGj.cell (cell_row F2 rfl) (fun e => F6.2.2.1 (by injection e with e))
                  have zs2 := fun p => cell_since z2 p
                  have CM : ∀ p, Calls Try.prog 87 #[.int .i64 y, .pointer (some ⟨w.heap.size + 1 + 1, 0, none⟩)] (since wr p) fun e w' => e = .returned (.int .i64 (meanL M y)) ∧ Below (since wr p).heap.size (since wr p) w' :=
                    fun p => (mean_any (w.heap.size + 1 + 1) 124 M y _ (hMj.below (since_below wr p)) by1 by2 hbM).mono fun e w' ⟨he, hw⟩ => ⟨he, by rw [hw]; exact Below.refl _ _⟩
                  have htk2 : (g.ins.take (j + 1)).map (meanL M) = (g.ins.take j).map (meanL M) ++ [meanL M y] := by rw [take_snoc hy, List.map_append]; rfl
                  have hlj : ((g.ins.take j).map (meanL M)).length = j := by simp; omega
                  have HTK2 := hid htk2
                  have HLJ := hid hlj
                  have HOJ := hid hOj
                  clear htk2 hlj hdy hy hOj
                  revert CM HTK2
                  generalize meanL M y = my
                  intro CM HTK2
                  go_wp2_with fail
                  refine region_tail 7 (by kernel_rfl) (by kernel_rfl) ?_
                  simp only [List.take_succ_cons, List.take_zero, List.drop_succ_cons, List.drop_zero]
                  repeat (first | go_big_quiet_step ((go_at_call 87; exact calls_since (CM _))) | quiet_step ((go_at_call 87; exact calls_since (CM _))))
                  refine wpQuiet_nil ?_
                  rintro W2 ⟨pw, hW2⟩
                  have hB2' : Below wr.heap.size wr W2 := by rw [hW2]; exact since_below wr pw
                  clear hW2
                  have hO2 := HOJ.out.kept (grown_of_below hB2' none) (by simp [Value.ownBlock])
                  have hcj : ∃ u, W2.cell? ⟨bH, j, none⟩ = some (.int .i64 u) := by
                    refine ⟨(((g.ins.take j).map (meanL M) ++ List.replicate (g.ins.length - ((g.ins.take j).map (meanL M)).length) 0)[j]?).getD 0, ?_⟩
                    rw [hO2.cellAt j (by omega)]
                    unfold halfRow nums
                    rw [List.getElem?_map, HLJ.out, List.getElem?_append_right (by rw [HLJ.out]; exact Nat.le_refl _), HLJ.out, Nat.sub_self, List.getElem?_replicate, if_pos (by omega)]
                    rfl
                  obtain ⟨u, hcu⟩ := hcj
                  have hfu := hO2.frozenAt j
                  have hO3 := (hO2.stored j (.int .i64 my)).1
                  have hG3 := (hGj.trans (grown_of_below hB2' (some bH))).trans (grown_setCell W2 ⟨bH, j, none⟩ (.int .i64 my))
                  have HO3 := hid hO3
                  clear hO2 hO3 CM zs2 z2 hMj hcy
                  go_wp2_with fail
                  go_roundg (g.ins.length - (j + 1))
                  case measure => omega
                  case rel =>
                    refine ⟨j + 1, by omega, by omega, by go_num, hG3, ?_⟩
                    have h3 := HO3.out
                    have e := half_set (n := g.ins.length) (ys := (g.ins.take j).map (meanL M)) (by rw [HLJ.out]; exact hltj) my
                    rw [HLJ.out] at e
                    rw [e] at h3
                    rw [HTK2.out]
                    exact h3
                · have hltzj : ¬ (j : Int) < (g.ins.length : Int) := by omega
                  have hfull : halfRow g.ins.length ((g.ins.take j).map (meanL M)) = nums (g.ins.map (meanL M)) := by
                    rw [List.take_of_length_le (by omega : g.ins.length ≤ j)]
                    have := half_full (g.ins.map (meanL M))
                    rwa [List.length_map] at this
                  rw [hfull] at hOj
                  clear hfull
                  go_wp2_with fail
                  obtain ⟨hsh, hg1, hg2⟩ := HGA.out g hgm
                  obtain ⟨m, hm⟩ : ∃ m : Nat, g.var = m := Int.eq_ofNat_of_zero_le (by omega)
                  have hm1 : m < 65537 := by omega
                  have hm2 : (m : Int) < 65537 := by omega
                  have hm0 : 0 ≤ (m : Int) := by omega
                  have R16 := row_grown F2 hGj (fun e => F6.2.2.1 (by injection e with e; exact e.symm))
                  have R15 := row_grown F7 hGj (fun e => by injection e with e; omega)
                  have hIH : IntsAt wr (.slice (some ⟨bH, 0, none⟩) g.ins.length g.ins.length) (g.ins.map (meanL M)) := ints_of_own hOj (fun y hy => by
                    obtain ⟨l, _, rfl⟩ := List.mem_map.1 hy
                    have := BndM.mean hbM l
                    unfold I64; omega) (by omega)
                  have hbI : ∀ y ∈ g.ins.map (meanL M), -65537 ≤ y ∧ y ≤ 65537 := fun y hy => by
                    obtain ⟨l, _, rfl⟩ := List.mem_map.1 hy
                    exact BndM.mean hbM l
                  have hSB := simplP_bnd (k := g.kind) hbI
                  have hSK := simplP_kind 65537 g.kind (g.ins.map (meanL M))
                  have hlenI : (g.ins.map (meanL M)).length = g.ins.length := List.length_map ..
                  have CS : ∀ W, Below wr.heap.size wr W → Calls Try.prog 88 #[.agg #[.int .i64 (m : Int), .int .u8 g.kind, .slice (some ⟨bH, 0, none⟩) g.ins.length g.ins.length]] W
                      (SimplPost W m (.slice (some ⟨bH, 0, none⟩) g.ins.length g.ins.length) (simplP 65537 g.kind (g.ins.map (meanL M))).1 (simplP 65537 g.kind (g.ins.map (meanL M))).2.1 (simplP 65537 g.kind (g.ins.map (meanL M))).2.2) := fun W hW =>
                    simplified_any m g.kind (g.ins.map (meanL M)) _ W (hIH.keep (keeps_below hW)) hbI (by omega) (by rw [hlenI]; exact hsh)
                  have hstepR : gateStep 65537 (M, stay) g = if (simplP 65537 g.kind (g.ins.map (meanL M))).1 = 0 then (upd M m g.var, stay ++ [⟨g.var, (simplP 65537 g.kind (g.ins.map (meanL M))).2.1, (simplP 65537 g.kind (g.ins.map (meanL M))).2.2⟩])
                      else (upd M m (simplP 65537 g.kind (g.ins.map (meanL M))).1, stay) := by
                    unfold gateStep; rw [hm]; rfl
                  have hA2 : gatesP 65537 (fixM 65537 (varM noM (varsOf N.pre)) a) N.gates = (N.gates.drop (k2 + 1)).foldl (gateStep 65537) (gateStep 65537 (M, stay) g) := by rw [hA.out, hgd]; rfl
                  have HSR := hid hstepR
                  have HA2 := hid hA2
                  have HSB := hid hSB
                  have HSK := hid hSK
                  clear hstepR hA2 hlenI hbI hsh hIH hOj hSB hSK
                  revert CS HSR HSB HSK
                  generalize (simplP 65537 g.kind (g.ins.map (meanL M))).1 = r1
                  generalize (simplP 65537 g.kind (g.ins.map (meanL M))).2.1 = r2
                  generalize (simplP 65537 g.kind (g.ins.map (meanL M))).2.2 = r3
                  intro CS HSR HSB HSK
                  rw [hm] at R16 R15
                  have hV9 : W9.heap.size ≤ V.heap.size := hG.size
                  have v0 : wr.cell? ⟨V.heap.size, 0, none⟩ = some (.int .i64 (m : Int)) := cell_row R15 rfl
                  have u0 : wr.cell? ⟨b16, 0, none⟩ = some (.int .i64 (m : Int)) := cell_row R16 rfl
                  have u1 : wr.cell? ⟨b16, 1, none⟩ = some (.int .u8 g.kind) := cell_row R16 rfl
                  have u2 : wr.cell? ⟨b16, 2, none⟩ = some (.slice (some ⟨bH, 0, none⟩) g.ins.length g.ins.length) := cell_row R16 rfl
                  refine wp_region_noPanic ?_
                  refine wp_region_held_drew (S := fun w' => w'.cell? ⟨V.heap.size, 0, none⟩ = some (.int .i64 (m : Int))) (by kernel_rfl) v0 (fun hHeld => ?_)
                  refine wpAnyH_take (i := 0) (v := ?v0) rfl (by kernel_rfl) (by kernel_rfl) (by kernel_rfl) (fun _ _ _ h => h) (Or.inl ⟨by rfl, ?y0⟩) hHeld ?_
                  case y0 => (intro w hSw; (try dsimp only at hSw); go_simp); with_reducible rfl
                  try simp only [Act.put, List.setIfInBounds_toArray, List.set_cons_zero, List.set_cons_succ]
                  refine wpAnyH_take (i := 1) (v := ?v1) rfl (by kernel_rfl) (by kernel_rfl) (by kernel_rfl) (fun _ _ _ h => h) (Or.inl ⟨by rfl, ?y1⟩) hHeld ?_
                  case y1 => (intro w hSw; (try dsimp only at hSw); go_simp); with_reducible rfl
                  try simp only [Act.put, List.setIfInBounds_toArray, List.set_cons_zero, List.set_cons_succ]
                  refine wpAnyH_ready (rs := [2]) (by kernel_rfl) (by simp) ?_
                  refine AllReadyH.cons rfl (fun K hK => ?_) AllReadyH.nil
                  go_simp
                  refine hK.out _ _ v0 (fun hHeld => ?_)
                  clear hK K
                  try simp only [Act.put, List.setIfInBounds_toArray, List.set_cons_zero, List.set_cons_succ]
                  refine wpAnyH_ready (rs := [3]) (by kernel_rfl) (by simp) ?_
                  refine AllReadyH.cons rfl (fun K hK => ?_) AllReadyH.nil
                  go_simp
                  (go_at_call 88; refine (CS _ (Below.refl wr.heap.size wr).drew).mono ?_; rintro e w' ⟨hBs, v, rfl, hIv, hvv⟩; obtain ⟨Av, cv, rfl, hcv1, hcv2⟩ := SlAt.form hIv; have hBw : Below wr.heap.size wr w' := ((Below.refl wr.heap.size wr).drew).trans hBs; have s0 := cell_row (row_below R15 hBw) (j := 0) (v := .int .i64 (m : Int)) rfl; have s1 := cell_row (row_below R16 hBw) (j := 0) (v := .int .i64 (m : Int)) rfl; have s2 := cell_row (row_below R16 hBw) (j := 1) (v := .int .u8 g.kind) rfl; have s3 := cell_row (row_below R16 hBw) (j := 2) (v := .slice (some ⟨bH, 0, none⟩) g.ins.length g.ins.length) rfl; have hMw := hMj.below hBw; have c5 := hMw.cell m hm1; have f5 := hMw.free m; have R16' := row_grown (row_below R16 hBw) (grown_setCell w' ⟨w.heap.size + 1 + 1, m, none⟩ (.int .i64 r1)) (fun e => by injection e with e; have e' : w.heap.size + 1 + 1 = b16 := e; omega); have kv := cell_row (row_grown (row_below R15 hBw) (grown_setCell w' ⟨w.heap.size + 1 + 1, m, none⟩ (.int .i64 r1)) (fun e => by injection e with e; have e' : w.heap.size + 1 + 1 = V.heap.size := e; omega)) (j := 0) (v := .int .i64 (m : Int)) rfl; have k0 := cell_row R16' (j := 0) (v := .int .i64 (m : Int)) rfl; have k1 := cell_row R16' (j := 1) (v := .int .u8 g.kind) rfl; have k2' := cell_row R16' (j := 2) (v := .slice (some ⟨bH, 0, none⟩) g.ins.length g.ins.length) rfl; have kz : ((((w'.setCell ⟨w.heap.size + 1 + 1, m, none⟩ (.int .i64 r1)).setCell ⟨b16, 0, none⟩ (.int .i64 (m : Int))).setCell ⟨b16, 1, none⟩ (.int .u8 r2)).setCell ⟨b16, 2, none⟩ (.slice Av r3.length cv)).cell? ⟨V.heap.size, 0, none⟩ = some (.int .i64 (m : Int)) := (put3_grown (w'.setCell ⟨w.heap.size + 1 + 1, m, none⟩ (.int .i64 r1)) b16 m r2 (.slice Av r3.length cv)).cell kv (fun e => by injection e with e; have e' : V.heap.size = b16 := e; omega); have kf := fun j => frozen_of_row _ b16 j _ _ R16')
                  go_wp2_with fail
                  refine hK.out _ _ (cell_row (row_below R15 hBw) (j := 0) (v := .int .i64 (m : Int)) rfl) (fun hHeld => ?_)
                  clear hK K
                  try simp only [Act.put, List.setIfInBounds_toArray, List.set_cons_zero, List.set_cons_succ]
                  refine wpAnyH_take (i := 4) (v := ?v4) rfl (by kernel_rfl) (by kernel_rfl) (by kernel_rfl) (fun _ _ _ h => h) (Or.inl ⟨by rfl, ?y4⟩) hHeld ?_
                  case y4 => (intro w hSw; (try dsimp only at hSw); go_simp); with_reducible rfl
                  try simp only [Act.put, List.setIfInBounds_toArray, List.set_cons_zero, List.set_cons_succ]
                  refine wpAnyH_take (i := 5) (v := ?v5) rfl (by kernel_rfl) (by kernel_rfl) (by kernel_rfl) (fun _ _ _ h => h) (Or.inl ⟨by rfl, ?y5⟩) hHeld ?_
                  case y5 => (intro w hSw; (try dsimp only at hSw); go_simp); with_reducible rfl
                  try simp only [Act.put, List.setIfInBounds_toArray, List.set_cons_zero, List.set_cons_succ]
                  refine wpAnyH_take (i := 6) (v := ?v6) rfl (by kernel_rfl) (by kernel_rfl) (by kernel_rfl) (fun _ _ _ h => h) (Or.inl ⟨by rfl, ?y6⟩) hHeld ?_
                  case y6 => (intro w hSw; (try dsimp only at hSw); go_simp); with_reducible rfl
                  try simp only [Act.put, List.setIfInBounds_toArray, List.set_cons_zero, List.set_cons_succ]
                  refine wpAnyH_take (i := 7) (v := ?v7) rfl (by kernel_rfl) (by kernel_rfl) (by kernel_rfl) (fun _ _ _ h => h) (Or.inl ⟨by rfl, ?y7⟩) hHeld ?_
                  case y7 => (intro w hSw; (try dsimp only at hSw); go_simp); with_reducible rfl
                  try simp only [Act.put, List.setIfInBounds_toArray, List.set_cons_zero, List.set_cons_succ]
                  refine wpAnyH_ready (rs := [8]) (by kernel_rfl) (by simp) ?_
                  refine AllReadyH.cons rfl (fun K hK => ?_) AllReadyH.nil
                  go_simp
                  refine hK.out _ _ kv (fun hHeld => ?_)
                  clear hK K
                  try simp only [Act.put, List.setIfInBounds_toArray, List.set_cons_zero, List.set_cons_succ]
                  refine wpAnyH_ready (rs := [9]) (by kernel_rfl) (by simp) ?_
                  refine AllReadyH.cons rfl (fun K hK => ?_) AllReadyH.nil
                  go_simp
                  refine hK.out _ _ kz (fun hHeld => ?_)
                  clear hK K
                  try simp only [Act.put, List.setIfInBounds_toArray, List.set_cons_zero, List.set_cons_succ]
                  refine wpAnyH_done (by kernel_rfl) ?_ _
                  refine NoPanic.normal ?_
                  have hlt5 : w.heap.size + 1 + 1 < W9.heap.size := hb5
                  have hwl : wr.heap.size ≤ w'.heap.size := hBw.size
                  have hVl : V.heap.size ≤ wr.heap.size := hBj.size
                  have hWBl : WB.heap.size ≤ wr.heap.size := hGj.size
                  obtain ⟨WZ, hWZ⟩ : ∃ WZ, (((w'.setCell ⟨w.heap.size + 1 + 1, m, none⟩ (.int .i64 r1)).setCell ⟨b16, 0, none⟩ (.int .i64 (m : Int))).setCell ⟨b16, 1, none⟩ (.int .u8 r2)).setCell ⟨b16, 2, none⟩ (.slice Av r3.length cv) = WZ := ⟨_, rfl⟩
                  have GP : (w'.setCell ⟨w.heap.size + 1 + 1, m, none⟩ (.int .i64 r1)).grownBy WZ (some b16) := by rw [← hWZ]; exact put3_grown _ b16 m r2 _
                  have GS := grown_setCell w' ⟨w.heap.size + 1 + 1, m, none⟩ (.int .i64 r1)
                  have MZ := (hMw.store m r1).kept GP (by intro e; injection e with e; omega)
                  have VZ : ∀ j, j < V.heap.size → j ≠ w.heap.size + 1 + 1 → WZ.heap[j]? = V.heap[j]? := fun j h1 h2 => by
                    refine (GP.block j (by have := GS.size; omega) (by intro e; injection e with e; omega)).trans ?_
                    refine (GS.block j (by omega) (by intro e; injection e with e; exact h2 e)).trans ?_
                    exact (hBw.block j (by omega)).trans (hBj.block j h1)
                  have HAs : Hid (∀ b, (Value.slice As stay.length cs).ownBlock = some b → b < V.heap.size) := hid fun b hb => by
                    obtain ⟨xs, hxs⟩ := hSt.row
                    exact (hxs.lt b hb).2
                  have SZ : StayAt WZ W9.heap.size (.slice As stay.length cs) stay := hSt.keep (by have := GS.size; have := GP.size; omega) (fun j h1 h2 => VZ j h2 (by omega))
                  have G9 : W9.grownBy WZ (some (w.heap.size + 1 + 1)) := by
                    refine grown_far ?_ GP (fun r e => by injection e with e; omega)
                    exact (grown_far hG (grown_of_below (below_then hBj hBj.size hBw) none) (fun r e => by cases e)).trans GS
                  have hblk : 0 < r3.length → ∀ b, (Value.slice Av r3.length cv).ownBlock = some b → b ≠ w.heap.size + 1 + 1 ∧ b ≠ b16 ∧ V.heap.size < b ∧ b < w'.heap.size := fun hp b hb => by
                    have hlt : b < w'.heap.size := by
                      obtain ⟨A', c', e, k1, k2, k3⟩ := hIv
                      cases e
                      obtain ⟨b', off', rfl, k4⟩ := k3 hp
                      obtain ⟨y, hy, -, -⟩ := nth hp
                      injection hb with hb
                      have hb' : b' = b := hb
                      rw [← hb']
                      exact World.block_lt_of_cell? _ _ (k4 0 y hy).1
                    rcases hvv with h | h
                    · rw [h] at hb; injection hb with hb
                      have hb' : bH = b := hb
                      omega
                    · have := h b hb
                      have h2 : wr.drew.heap.size = wr.heap.size := rfl
                      omega
                  have IZ : IntsAt WZ (.slice Av r3.length cv) r3 := by
                    obtain ⟨A', c', e, k1, k2, k3⟩ := hIv
                    refine ⟨A', c', e, k1, k2, fun hp => ?_⟩
                    obtain ⟨b', off', e2, k4⟩ := k3 hp
                    refine ⟨b', off', e2, fun j x hx => ⟨?_, (k4 j x hx).2⟩⟩
                    have hb := hblk hp b' (by rw [e, e2]; rfl)
                    refine GP.cell (GS.cell (k4 j x hx).1 (fun e => hb.1 ?_)) (fun e => hb.2.1 ?_)
                    · injection e with e
                    · injection e with e
                  have RZ : WZ.heap[b16]? = some (.cells #[.int .i64 (m : Int), .int .u8 r2, .slice Av r3.length cv] 70 (0, 0)) := by rw [← hWZ]; exact row_put3 R16' m r2 _
                  have z0 : WZ.cell? ⟨b16, 0, none⟩ = some (.int .i64 (m : Int)) := cell_row RZ rfl
                  have z1 : WZ.cell? ⟨b16, 1, none⟩ = some (.int .u8 r2) := cell_row RZ rfl
                  have z2 : WZ.cell? ⟨b16, 2, none⟩ = some (.slice Av r3.length cv) := cell_row RZ rfl
                  have zt : WZ.cell? ⟨V.heap.size, 0, none⟩ = some (.int .i64 (m : Int)) := by rw [← hWZ]; exact kz
                  have c6 := MZ.cell m hm1
                  have c6' : WZ.cell? ⟨w.heap.size + 1 + 1, m, none⟩ = some (.int .i64 r1) := by rw [c6]; unfold upd; rw [if_pos rfl]
                  have f6 := MZ.free m
                  rw [hWZ]
                  have hszZ : w'.heap.size ≤ WZ.heap.size := Nat.le_trans GS.size GP.size
                  have HMZ := hid MZ
                  have HSZ := hid SZ
                  have HIZ := hid IZ
                  have HBK := hid hblk
                  clear hWZ GP GS kz kv k0 k1 k2' kf c5 f5 c6 R16' s0 s1 s2 s3 CS hMw hIv hvv hBs VZ MZ SZ IZ hblk hSt hMr hMj R16 R15 F2 F4 F7 v0 u0 u1 u2 hBA hrowA hzA hwA x0 x1 x2 hfA hc0 hc1 hc2
                  by_cases hr1 : r1 = 0
                  · subst hr1
                    have hsteq : gateStep 65537 (M, stay) g = (upd M m g.var, stay ++ [⟨g.var, r2, r3⟩]) := by rw [HSR.out, if_pos rfl]
                    have HST := hid hsteq
                    have hst0 : WZ.cell? ⟨w.heap.size + 1 + 1, m, none⟩ = some (.int .i64 0) := c6'
                    clear hsteq HSR c6'
                    obtain ⟨WY, hWY⟩ : ∃ WY, WZ.setCell ⟨w.heap.size + 1 + 1, m, none⟩ (.int .i64 (m : Int)) = WY := ⟨_, rfl⟩
                    have GY : WZ.grownBy WY (some (w.heap.size + 1 + 1)) := by rw [← hWY]; exact grown_setCell _ _ _
                    have y0 : WY.cell? ⟨b16, 0, none⟩ = some (.int .i64 (m : Int)) := GY.cell z0 (fun e => by injection e with e; have e' : b16 = w.heap.size + 1 + 1 := e; omega)
                    have y1 : WY.cell? ⟨b16, 1, none⟩ = some (.int .u8 r2) := GY.cell z1 (fun e => by injection e with e; have e' : b16 = w.heap.size + 1 + 1 := e; omega)
                    have y2' : WY.cell? ⟨b16, 2, none⟩ = some (.slice Av r3.length cv) := GY.cell z2 (fun e => by injection e with e; have e' : b16 = w.heap.size + 1 + 1 := e; omega)
                    have SY : StayAt WY W9.heap.size (.slice As stay.length cs) stay := HSZ.out.grown GY (fun r e => by injection e with e; omega)
                    obtain ⟨xs, hxs⟩ := SY.row
                    have hszY : WZ.heap.size ≤ WY.heap.size := GY.size
                    have hbs : W9.heap.size ≤ WY.heap.size := by omega
                    have hb40 : (stay.length + 1) * 40 ≤ 140737488355328 := by omega
                    have MY : MeanAt WY (w.heap.size + 1 + 1) 124 (upd M m m) := by
                      have h1 := HMZ.out.store m m
                      rw [hWY] at h1
                      have e : upd (upd M m 0) m (m : Int) = upd M m m := by funext j; unfold upd; split <;> rfl
                      rwa [e] at h1
                    have IY : IntsAt WY (.slice Av r3.length cv) r3 := IntsAt.keptP HIZ.out GY (fun hp b hb e => (HBK.out hp b hb).1 (by injection e with e; exact e.symm))
                    have G9Y := G9.trans GY
                    have HMY := hid MY
                    have HIY := hid IY
                    have HSY := hid SY
                    clear MY IY SY GY z0 z1 z2
                    go_wp2_with (at_builtin; refine append_one (W9.heap.size) rfl _ _ 23 70 (.agg #[.int .i64 0, .int .u8 0, .slice none 0 0]) 3 40 rfl Try.underlying23 info70 rfl (by decide) (by decide) (.slice As stay.length cs) stay.length xs #[.int .i64 (m : Int), .int .u8 r2, .slice Av r3.length cv] rfl rfl rfl (by intro u hu; simp at hu; rcases hu with rfl | rfl | rfl <;> rfl) hxs hbs hb40 ?_; intro g2 cap2 w4 hO4 hG4 hg4 hbg hlt4)
                    have hown : ∀ b, (Value.slice As stay.length cs).ownBlock = some b → W9.heap.size ≤ b := fun b hb => (hxs.lt b hb).1
                    go_roundg (N.gates.length - (k2 + 1))
                    case measure => omega
                    case rel =>
                      refine ⟨k2 + 1, upd M m g.var, stay ++ [⟨g.var, r2, r3⟩], by omega, by omega, by go_num, grown_far G9Y hG4 hown, ?_, BndM.upd hbM m (by omega) (by omega), ?_, by simp; omega, ⟨?_⟩⟩
                      · rw [hm]; exact HMY.out.kept hG4 (fun e => by have := hown _ e; omega)
                      · have h := StayAt.push (x := ⟨g.var, r2, r3⟩) (vo1 := .slice (some ⟨g2, 0, none⟩) (stay.length + 1) cap2) HSY.out (Below.refl _ WY) ⟨h64, HSK.out.1, HSK.out.2⟩ HIY.out (fun hp b hb => by
                            have h1 := HBK.out hp b hb
                            exact ⟨fun e => by have := HAs.out b e; omega, by omega, by omega⟩) (fun ys hys => by rw [own_unique hys hxs, hm]; exact hO4) hG4 (fun b hb => by
                            injection hb with hb
                            have hb' : g2 = b := hb
                            rw [← hb']; exact hg4)
                        simpa using h
                      · rw [HA2.out, HST.out]
                  · have hrb : (r1 == 0) = false := by rw [beq_eq_false_iff_ne]; exact hr1
                    have HR1 := hid hr1
                    clear hr1
                    go_wp2_with fail
                    go_roundg (N.gates.length - (k2 + 1))
                    case measure => omega
                    case rel =>
                      refine ⟨k2 + 1, upd M m r1, stay, by omega, by omega, by go_num, G9, HMZ.out, BndM.upd hbM m HSB.out.1.1 HSB.out.1.2, HSZ.out, by omega, ⟨?_⟩⟩
                      rw [HA2.out, HSR.out, if_neg HR1.out]
          · have hltz2 : ¬ (k2 : Int) < (N.gates.length : Int) := by omega
            have hR : gatesP 65537 (fixM 65537 (varM noM (varsOf N.pre)) a) N.gates = (M, stay) := by rw [hA.out, List.drop_eq_nil_of_le (by omega)]; rfl
            obtain ⟨As, cs, rfl, hAs1, hAs2⟩ := hSt.form
            have HRG := hid hR
            have HSt := hid hSt
            have q0 := hG.cell p0 (by intro e; injection e with e; have e' : w.heap.size = w.heap.size + 1 + 1 := e; omega)
            have q2 := hG.cell p2 (by intro e; injection e with e; have e' : w.heap.size = w.heap.size + 1 + 1 := e; omega)
            have hBr : Below w.heap.size w wr := hB9.grown hG hB9.size (fun r e => by injection e with e; omega)
            clear hR hA hSt p0 p1 p2
            go_wp2_with fail
            have HM9 := hid hMr
            have hVr := hG.size
            have KS : ∀ W, Below wr.heap.size wr W → (Below wr.heap.size wr W ∧ W.cell? ⟨w.heap.size, 0, none⟩ = some (.slice Ap N.pre.length cp) ∧ W.cell? ⟨w.heap.size, 2, none⟩ = some (.int .i64 N.out)) := fun W hW => ⟨hW, keeps_below hW _ _ q0, keeps_below hW _ _ q2⟩
            have hS7 : SetAt wr W5.heap.size 86 (markS noS a) := hS.kept hG (by intro e; injection e with e; omega)
            have hp7 := hp
            have CW : ∀ W, Below wr.heap.size wr W → Calls Try.prog 60 #[.slice Ap N.pre.length cp, .pointer (some ⟨W5.heap.size, 0, none⟩)] W fun e w' => Below W.heap.size W w' ∧ ∃ vo, e = .returned vo ∧ OutAt w' W.heap.size vo (withoutP (markS noS a) N.pre) := fun W hW =>
              without_any _ N.pre W5.heap.size 86 (markS noS a) W (hp7.keep (keeps_below (below_then hBr hBr.size hW))) (hS7.below hW) hpl hpx
            have CM : ∀ W, Below wr.heap.size wr W → Calls Try.prog 87 #[.int .i64 N.out, .pointer (some ⟨w.heap.size + 1 + 1, 0, none⟩)] W fun e w' => e = .returned (.int .i64 (meanL M N.out)) ∧ w' = W := fun W hW =>
              mean_any (w.heap.size + 1 + 1) 124 M N.out W (HM9.out.below hW) hout.1 hout.2 hbM
            have hBd0 := (Below.refl wr.heap.size wr).drew
            have KS3 : ∀ W b v0 v1 v2, Below wr.heap.size wr W → wr.heap.size ≤ b → (Below wr.heap.size wr (((W.setCell ⟨b, 0, none⟩ v0).setCell ⟨b, 1, none⟩ v1).setCell ⟨b, 2, none⟩ v2) ∧ (((W.setCell ⟨b, 0, none⟩ v0).setCell ⟨b, 1, none⟩ v1).setCell ⟨b, 2, none⟩ v2).cell? ⟨w.heap.size, 0, none⟩ = some (.slice Ap N.pre.length cp) ∧ (((W.setCell ⟨b, 0, none⟩ v0).setCell ⟨b, 1, none⟩ v1).setCell ⟨b, 2, none⟩ v2).cell? ⟨w.heap.size, 2, none⟩ = some (.int .i64 N.out)) := fun W b v0 v1 v2 hW hb =>
              KS _ (((hW.setCell (p := ⟨b, 0, none⟩) hb v0).setCell (p := ⟨b, 1, none⟩) hb v1).setCell (p := ⟨b, 2, none⟩) hb v2)
            have hZ : ∀ W', Below (wr.alloc (.cells #[.slice none 0 0, .slice none 0 0, .int .i64 0] 25)).drew.heap.size (wr.alloc (.cells #[.slice none 0 0, .slice none 0 0, .int .i64 0] 25)).drew W' → W'.heap[wr.heap.size]? = some (.cells #[.slice none 0 0, .slice none 0 0, .int .i64 0] 25 (0, 0)) := fun W' hW' => by
              have h0 : (wr.alloc (.cells #[.slice none 0 0, .slice none 0 0, .int .i64 0] 25)).drew.heap[wr.heap.size]? = some (.cells #[.slice none 0 0, .slice none 0 0, .int .i64 0] 25 (0, 0)) := heap_alloc_new wr _
              exact row_below h0 hW'
            have HHS := hid hS7
            have HW64 : Hid (∀ x ∈ withoutP (markS noS a) N.pre, ∀ y ∈ x.vars, I64 y) := hid (withoutP_rng _ hvp)
            clear hS hS7 hMr
            refine (fun (H : BoxP ?G2) => ?main2) (BoxP.mk ?key2)
            case main2 =>
                go_region_held3 (fun w' => Below wr.heap.size wr w' ∧ w'.cell? ⟨w.heap.size, 0, none⟩ = some (.slice Ap N.pre.length cp) ∧ w'.cell? ⟨w.heap.size, 2, none⟩ = some (.int .i64 N.out)) (first | exact KS _ (by assumption) | exact KS _ (Below.alloc (by assumption) (Below.size (by assumption)) _) | exact KS _ ((Below.refl wr.heap.size wr).alloc (Nat.le_refl _) _).drew | exact KS3 _ _ _ _ _ (by assumption) (Nat.le_refl _) | exact KS3 _ _ _ _ _ (by assumption) (Below.size (by assumption)) | skip)
                  (first | (go_at_call 60; refine (CW _ (by first | assumption | exact Below.alloc (by assumption) (Below.size (by assumption)) _ | exact ((Below.refl wr.heap.size wr).alloc (Nat.le_refl _) _).drew)).mono ?_; rintro e w' ⟨hB60, vo, rfl, hO⟩; obtain ⟨Ao, co, rfl, hol⟩ := hO.form; have hBx : Below wr.heap.size wr w' := below_then (by first | assumption | exact Below.alloc (by assumption) (Below.size (by assumption)) _ | exact ((Below.refl wr.heap.size wr).alloc (Nat.le_refl _) _).drew) (Below.size (by first | assumption | exact Below.alloc (by assumption) (Below.size (by assumption)) _ | exact ((Below.refl wr.heap.size wr).alloc (Nat.le_refl _) _).drew)) hB60; (try have nz := hZ _ hB60); (try have nz0 := cell_row nz (j := 0) rfl); (try have nz1 := cell_row nz (j := 1) rfl); (try have nz2 := cell_row nz (j := 2) rfl); (try have nzf := fun j => frozen_of_row _ wr.heap.size j _ _ nz)) | (go_at_call 87; refine (CM _ (by first | assumption | exact Below.alloc (by assumption) (Below.size (by assumption)) _ | exact ((Below.refl wr.heap.size wr).alloc (Nat.le_refl _) _).drew)).mono ?_; rintro e w' ⟨rfl, rfl⟩))
                · have h64 : ∀ x ∈ withoutP (markS noS a) N.pre, ∀ y ∈ x.vars, I64 y := HW64.out
                  obtain ⟨WE, hcE, hwE⟩ : ∃ WE, (∃ b, b = w'.heap.size) ∧ w'.alloc (.cells #[.slice Ao (withoutP (markS noS a) N.pre).length co, .slice none 0 0, .int .i64 (meanL M N.out)] 25) = WE := ⟨_, ⟨_, rfl⟩, rfl⟩
                  have hBE : Below w'.heap.size w' WE := by rw [← hwE]; exact (Below.refl _ w').alloc (Nat.le_refl _) _
                  have G1 : Below wr.heap.size wr WE := below_then hBx hBx.size hBE
                  have G2 : WE.heap[w'.heap.size]? = some (.cells #[.slice Ao (withoutP (markS noS a) N.pre).length co, .slice none 0 0, .int .i64 (meanL M N.out)] 25 (0, 0)) := by rw [← hwE]; exact heap_alloc_new w' _
                  have hlw := hBx.size
                  have G3 : ∀ w2, WE.heap.size ≤ w2.heap.size → (∀ k, wr.heap.size ≤ k → k < WE.heap.size → k ≠ w'.heap.size → w2.heap[k]? = WE.heap[k]?) → BlocksAt w2 (.slice Ao (withoutP (markS noS a) N.pre).length co) (withoutP (markS noS a) N.pre) := fun w2 hs hk =>
                    blocks_of_out (hO.keepB (Nat.le_trans hBE.size hs) (fun k h1 h2 => (hk k h1 (Nat.lt_of_lt_of_le h2 hBE.size) (by omega)).trans (hBE.block k h2))) h64
                  rw [hwE]
                  have G4 : wr.heap.size ≤ w'.heap.size ∧ w'.heap.size < WE.heap.size := ⟨hlw, row_lt G2⟩
                  have PP := And.intro G1 (And.intro G2 (And.intro G3 G4))
                  clear G1 G2 G3 G4 hwE hBE hO hol
                  obtain ⟨b19, hb19⟩ : ∃ b, b = w'.heap.size := ⟨_, rfl⟩
                  rw [← hb19] at PP ⊢
                  clear hb19
                  generalize hv : Value.slice Ao (withoutP (markS noS a) N.pre).length co = vo2 at PP ⊢
                  clear hv
                  revert PP
                  revert vo2
                  revert b19
                  revert WE
                  exact H.out
                · have h64 : ∀ x ∈ withoutP (markS noS a) N.pre, ∀ y ∈ x.vars, I64 y := HW64.out
                  obtain ⟨WE, hcE, hwE⟩ : ∃ WE, (∃ b, b = w'.heap.size) ∧ w'.alloc (.cells #[.slice Ao (withoutP (markS noS a) N.pre).length co, .slice none 0 0, .int .i64 (meanL M N.out)] 25) = WE := ⟨_, ⟨_, rfl⟩, rfl⟩
                  have hBE : Below w'.heap.size w' WE := by rw [← hwE]; exact (Below.refl _ w').alloc (Nat.le_refl _) _
                  have G1 : Below wr.heap.size wr WE := below_then hBx hBx.size hBE
                  have G2 : WE.heap[w'.heap.size]? = some (.cells #[.slice Ao (withoutP (markS noS a) N.pre).length co, .slice none 0 0, .int .i64 (meanL M N.out)] 25 (0, 0)) := by rw [← hwE]; exact heap_alloc_new w' _
                  have hlw := hBx.size
                  have G3 : ∀ w2, WE.heap.size ≤ w2.heap.size → (∀ k, wr.heap.size ≤ k → k < WE.heap.size → k ≠ w'.heap.size → w2.heap[k]? = WE.heap[k]?) → BlocksAt w2 (.slice Ao (withoutP (markS noS a) N.pre).length co) (withoutP (markS noS a) N.pre) := fun w2 hs hk =>
                    blocks_of_out (hO.keepB (Nat.le_trans hBE.size hs) (fun k h1 h2 => (hk k h1 (Nat.lt_of_lt_of_le h2 hBE.size) (by omega)).trans (hBE.block k h2))) h64
                  rw [hwE]
                  have G4 : wr.heap.size ≤ w'.heap.size ∧ w'.heap.size < WE.heap.size := ⟨hlw, row_lt G2⟩
                  have PP := And.intro G1 (And.intro G2 (And.intro G3 G4))
                  clear G1 G2 G3 G4 hwE hBE hO hol
                  obtain ⟨b19, hb19⟩ : ∃ b, b = w'.heap.size := ⟨_, rfl⟩
                  rw [← hb19] at PP ⊢
                  clear hb19
                  generalize hv : Value.slice Ao (withoutP (markS noS a) N.pre).length co = vo2 at PP ⊢
                  clear hv
                  revert PP
                  revert vo2
                  revert b19
                  revert WE
                  exact H.out
                · have h64 : ∀ x ∈ withoutP (markS noS a) N.pre, ∀ y ∈ x.vars, I64 y := HW64.out
                  obtain ⟨WE, hwE⟩ : ∃ WE, ((w'.setCell ⟨wr.heap.size, 0, none⟩ (.slice Ao (withoutP (markS noS a) N.pre).length co)).setCell ⟨wr.heap.size, 1, none⟩ (.slice none 0 0)).setCell ⟨wr.heap.size, 2, none⟩ (.int .i64 (meanL M N.out)) = WE := ⟨_, rfl⟩
                  have gE : w'.grownBy WE (some wr.heap.size) := by rw [← hwE]; exact ((grown_setCell w' ⟨wr.heap.size, 0, none⟩ _).trans (grown_setCell _ ⟨wr.heap.size, 1, none⟩ _)).trans (grown_setCell _ ⟨wr.heap.size, 2, none⟩ _)
                  have G1 : Below wr.heap.size wr WE := hBx.grown gE hBx.size (fun r e => by injection e with e; omega)
                  have G2 : WE.heap[wr.heap.size]? = some (.cells #[.slice Ao (withoutP (markS noS a) N.pre).length co, .slice none 0 0, .int .i64 (meanL M N.out)] 25 (0, 0)) := by rw [← hwE]; exact row_set (row_set (row_set nz _) _) _
                  have hb0 : (wr.alloc (.cells #[.slice none 0 0, .slice none 0 0, .int .i64 0] 25)).drew.heap.size = wr.heap.size + 1 := World.size_alloc _ _
                  have hO2 := hO.lower (base' := wr.heap.size + 1) (by rw [← hb0]; exact Nat.le_refl _)
                  have G3 : ∀ w2, WE.heap.size ≤ w2.heap.size → (∀ k, wr.heap.size ≤ k → k < WE.heap.size → k ≠ wr.heap.size → w2.heap[k]? = WE.heap[k]?) → BlocksAt w2 (.slice Ao (withoutP (markS noS a) N.pre).length co) (withoutP (markS noS a) N.pre) := fun w2 hs hk =>
                    blocks_of_out (hO2.keepB (Nat.le_trans gE.size hs) (fun k h1 h2 => (hk k (by omega) (Nat.lt_of_lt_of_le h2 gE.size) (by omega)).trans (gE.block k h2 (by intro e; injection e with e; omega)))) h64
                  rw [hwE]
                  have G4 : wr.heap.size ≤ wr.heap.size ∧ wr.heap.size < WE.heap.size := ⟨Nat.le_refl _, row_lt G2⟩
                  obtain ⟨b19, hb19⟩ : ∃ b, b = wr.heap.size := ⟨_, rfl⟩
                  have PP : Below wr.heap.size wr WE ∧ WE.heap[b19]? = some (.cells #[.slice Ao (withoutP (markS noS a) N.pre).length co, .slice none 0 0, .int .i64 (meanL M N.out)] 25 (0, 0)) ∧ (∀ w2, WE.heap.size ≤ w2.heap.size → (∀ k, wr.heap.size ≤ k → k < WE.heap.size → k ≠ b19 → w2.heap[k]? = WE.heap[k]?) → BlocksAt w2 (.slice Ao (withoutP (markS noS a) N.pre).length co) (withoutP (markS noS a) N.pre)) ∧ (wr.heap.size ≤ b19 ∧ b19 < WE.heap.size) := by
                    rw [hb19]; exact And.intro G1 (And.intro G2 (And.intro G3 G4))
                  clear G1 G2 G3 G4 hwE gE hO2 hO hol hb0 nz nz0 nz1 nz2 nzf
                  rw [← hb19]
                  clear hb19
                  generalize hv : Value.slice Ao (withoutP (markS noS a) N.pre).length co = vo2 at PP ⊢
                  clear hv
                  revert PP
                  revert vo2
                  revert b19
                  revert WE
                  exact H.out
            case key2 =>
              clear KS KS3 hZ CW CM hBd0
              rintro WE b19 vo ⟨G1, G2, G3, G4, G5⟩
              obtain ⟨Ao, co, rfl, -, -⟩ := (G3 WE (Nat.le_refl _) (fun _ _ _ _ => rfl)).form
              obtain ⟨nP, hnP⟩ : ∃ n, (withoutP (markS noS a) N.pre).length = n := ⟨_, rfl⟩
              rw [hnP] at G2 G3 ⊢
              have HNP := hid hnP
              clear hnP
              have o2 : WE.cell? ⟨b19, 2, none⟩ = some (.int .i64 (meanL M N.out)) := cell_row G2 rfl
              obtain ⟨o, ho2⟩ : ∃ o, meanL M N.out = o := ⟨_, rfl⟩
              rw [ho2] at G2 o2 ⊢
              have HO2 := hid ho2
              clear ho2
              have HWS := hid hws
              have HOUT : Hid (simpleP 65537 N a = endP 65537 (withoutP (markS noS a) N.pre) o stay) := hid (by unfold simpleP simpleM; rw [HRG.out, HO2.out])
              have hS9E := (hS9'.kept hG (by intro e; injection e with e; omega)).below G1
              have hS8E := (hS8'.kept hG (by intro e; injection e with e; omega)).below G1
              have rE := row_below (row_grown r49 hG (by intro e; injection e with e; omega)) G1
              have hDE := row_below (row_grown hD9 hG (by intro e; injection e with e; omega)) G1
              have hBE : Below w.heap.size w WE := below_then hBr hBr.size G1
              by_cases hT : o = 65537 ∨ o = -65537
              · obtain ⟨kf, hk1, hk2, hk3, hk4⟩ := free_some hws
                obtain ⟨Sx, hSx⟩ : ∃ Sx, prefFrom none 0 noS (withoutP (markS noS a) N.pre) = some Sx := Option.isSome_iff_exists.1 hws
                have hgd : (prefFrom none 0 noS (withoutP (markS noS a) N.pre)).getD noS = Sx := by rw [hSx]; rfl
                have HGD := hid hgd
                have HSX := hid hSx
                rw [hgd] at hk1
                obtain ⟨b9, hb9e⟩ : ∃ b, b = W5.heap.size + 1 + 1 := ⟨_, rfl⟩
                rw [← hb9e] at hS9E ⊢
                have hb9 : b9 < WE.heap.size := hS9E.lt
                have h9r : b9 < wr.heap.size ∧ w.heap.size + 1 + 1 < b9 ∧ D < b9 := by omega
                have CP := prefix_K b9 86 noS (.slice Ao nP co) (withoutP (markS noS a) N.pre) WE (WE.putObj b9 (.deferred none)) (G3 _ (by simp) (fun k h1 h2 h3 => World.putObj_heap_other (by omega))) (fun w' hGp => keeps_deferred hb9 hGp) hS9E
                rw [hSx] at CP
                have o0 : WE.cell? ⟨b19, 0, none⟩ = some (.slice Ao nP co) := cell_row G2 rfl
                have hne : (some b9 : Option Nat) ≠ some b19 := by intro e; injection e with e; omega
                have CI : ∀ W, SetAt W b9 86 Sx → Calls Try.prog 62 #[.slice (some ⟨b9, 1, none⟩) 65536 65536, .bool false] W fun e w' => e = .returned (.int .i64 (kf : Int)) ∧ w' = W := fun W hW => by
                  have := index_any b9 86 1 65536 65536 Sx W hW rfl (Nat.le_refl _) (by omega)
                  rwa [hk1] at this
                have hwn : IntKind.i64.wrap (-(1 + (kf : Int))) = -(1 + (kf : Int)) := IntWalk.i64_in _ (by omega)
                have hwk : IntKind.i64.wrap (1 + (kf : Int)) = 1 + (kf : Int) := IntWalk.i64_in _ (by omega)
                have HHT := hid hT
                have HK1 := hid hk1
                clear hgd hSx hk1 hk3 hk4 hb9e hT hws
                rcases HHT.out with rfl | rfl
                · have hS9E' := hid hS9E
                  clear hS9E
                  go_wp2_with (go_at_call 42; refine CP.mono ?_; rintro e WP ⟨rfl, hGp, S', hS', hSS⟩; obtain rfl := hSS _ rfl; have G2p := row_grown G2 hGp hne; have p1 := frozen_of_row _ b19 1 _ _ G2p; have p2 := frozen_of_row _ b19 2 _ _ G2p; have c2p := cell_row G2p (j := 2) (v := .int .i64 65537) rfl; have c1p := cell_row G2p (j := 1) (v := .slice none 0 0) rfl)
                  refine (CI _ hS').mono ?_
                  rintro e w' ⟨rfl, rfl⟩
                  obtain ⟨WP, rfl⟩ : ∃ WP, WP = w' := ⟨_, rfl⟩
                  clear c1p p1 p2 CP hS'
                  have gV : (Value.slice (some ⟨WP.heap.size, 0, none⟩) 1 1) = .slice (some ⟨WP.heap.size, 0, none⟩) 1 1 := rfl
                  have rP := row_grown rE hGp (by intro e; injection e with e; omega)
                  have dP := row_grown hDE hGp (by intro e; injection e with e; omega)
                  obtain ⟨WQ, hWQ, hcQ, -, hzQ, hBQ, hrowQ⟩ := new_block WP #[.int .i64 (1 + (kf : Int)), .int .u8 1, .slice none 0 0] 70
                  have G2q : WQ.heap[b19]? = _ := row_below G2p hBQ
                  have rQ := row_below rP hBQ
                  have q1 := frozen_of_row _ b19 1 _ _ G2q
                  have q1c := cell_row G2q (j := 1) (v := .slice none 0 0) rfl
                  have G2r : (WQ.setCell ⟨b19, 1, none⟩ (.slice (some ⟨WP.heap.size, 0, none⟩) 1 1)).heap[b19]? = some (.cells #[.slice Ao nP co, .slice (some ⟨WP.heap.size, 0, none⟩) 1 1, .int .i64 65537] 25 (0, 0)) := row_set G2q _
                  have c2r := cell_row G2r (j := 2) (v := .int .i64 65537) rfl
                  have r2 := frozen_of_row _ b19 2 _ _ G2r
                  have G2s : ((WQ.setCell ⟨b19, 1, none⟩ (.slice (some ⟨WP.heap.size, 0, none⟩) 1 1)).setCell ⟨b19, 2, none⟩ (.int .i64 (1 + (kf : Int)))).heap[b19]? = some (.cells #[.slice Ao nP co, .slice (some ⟨WP.heap.size, 0, none⟩) 1 1, .int .i64 (1 + (kf : Int))] 25 (0, 0)) := row_set G2r _
                  have hGs : WQ.grownBy ((WQ.setCell ⟨b19, 1, none⟩ (.slice (some ⟨WP.heap.size, 0, none⟩) 1 1)).setCell ⟨b19, 2, none⟩ (.int .i64 (1 + (kf : Int)))) (some b19) := (grown_setCell WQ ⟨b19, 1, none⟩ _).trans (grown_setCell _ ⟨b19, 2, none⟩ _)
                  have rS := row_grown rQ hGs (by intro e; injection e with e; omega)
                  have s0 := cell_row G2s (j := 0) (v := (.slice Ao nP co)) rfl
                  have s1 := cell_row G2s (j := 1) (v := .slice (some ⟨WP.heap.size, 0, none⟩) 1 1) rfl
                  have s2 := cell_row G2s (j := 2) (v := .int .i64 (1 + (kf : Int))) rfl
                  have rS1 := row_set rS (i := 0) (.slice Ao nP co)
                  have rS2 := row_set rS1 (i := 1) (.slice (some ⟨WP.heap.size, 0, none⟩) 1 1)
                  have rS3 := row_set rS2 (i := 2) (.int .i64 (1 + (kf : Int)))
                  have sf0 := frozen_of_row _ (w.heap.size + 1) 0 _ _ rS
                  have sf1 := frozen_of_row _ (w.heap.size + 1) 1 _ _ rS1
                  have sf2 := frozen_of_row _ (w.heap.size + 1) 2 _ _ rS2
                  have sc0 := cell_row rS (j := 0) (v := .slice none 0 0) rfl
                  have sc1 := cell_row rS1 (j := 1) (v := .slice none 0 0) rfl
                  have sc2 := cell_row rS2 (j := 2) (v := .int .i64 0) rfl
                  clear G2p c2p G2q gV hcQ
                  go_wp2_with fail
                  have hg4 : ((WQ.setCell ⟨b19, 1, none⟩ (.slice (some ⟨WP.heap.size, 0, none⟩) 1 1)).setCell ⟨b19, 2, none⟩ (.int .i64 (1 + (kf : Int)))).grownBy (((((WQ.setCell ⟨b19, 1, none⟩ (.slice (some ⟨WP.heap.size, 0, none⟩) 1 1)).setCell ⟨b19, 2, none⟩ (.int .i64 (1 + (kf : Int)))).setCell ⟨w.heap.size + 1, 0, none⟩ (.slice Ao nP co)).setCell ⟨w.heap.size + 1, 1, none⟩ (.slice (some ⟨WP.heap.size, 0, none⟩) 1 1)).setCell ⟨w.heap.size + 1, 2, none⟩ (.int .i64 (1 + (kf : Int)))) (some (w.heap.size + 1)) :=
                    ((grown_setCell _ ⟨w.heap.size + 1, 0, none⟩ _).trans (grown_setCell _ ⟨w.heap.size + 1, 1, none⟩ _)).trans (grown_setCell _ ⟨w.heap.size + 1, 2, none⟩ _)
                  clear sf0 sf1 sf2 sc0 sc1 sc2 rS1 rS2 s0 s1 s2 c2r r2 q1 q1c
                  revert rS3 hg4
                  generalize (((((WQ.setCell ⟨b19, 1, none⟩ (.slice (some ⟨WP.heap.size, 0, none⟩) 1 1)).setCell ⟨b19, 2, none⟩ (.int .i64 (1 + (kf : Int)))).setCell ⟨w.heap.size + 1, 0, none⟩ (.slice Ao nP co)).setCell ⟨w.heap.size + 1, 1, none⟩ (.slice (some ⟨WP.heap.size, 0, none⟩) 1 1)).setCell ⟨w.heap.size + 1, 2, none⟩ (.int .i64 (1 + (kf : Int)))) = WT
                  intro rS3 hg4
                  revert hGs hg4
                  generalize ((WQ.setCell ⟨b19, 1, none⟩ (.slice (some ⟨WP.heap.size, 0, none⟩) 1 1)).setCell ⟨b19, 2, none⟩ (.int .i64 (1 + (kf : Int)))) = WS at *
                  intro hGs hg4
                  have z1 := hGp.size
                  have z2 := hGs.size
                  have z3 := hg4.size
                  have z4 := hBE.size
                  have kb : ∀ k, k < WE.heap.size → k ≠ b9 → k ≠ b19 → k ≠ w.heap.size + 1 → WT.heap[k]? = WE.heap[k]? := fun k h1 h2 h3 h4 => by
                    refine (hg4.block k (by omega) (by intro e; injection e with e; exact h4 e)).trans ((hGs.block k (by omega) (by intro e; injection e with e; exact h3 e)).trans ((hBQ.block k (by omega)).trans (hGp.block k h1 (by intro e; injection e with e; exact h2 e))))
                  have dT : WT.heap[D]? = some (.deferred (some [])) := (kb D (by omega) (by omega) (by omega) (by omega)).trans hDE
                  have gT : WT.heap[WP.heap.size]? = some (.cells #[.int .i64 (1 + (kf : Int)), .int .u8 1, .slice none 0 0] 70 (0, 0)) :=
                    (hg4.block _ (by omega) (by intro e; injection e with e; omega)).trans ((hGs.block _ (by omega) (by intro e; injection e with e; omega)).trans hrowQ)
                  have hBT : Below w.heap.size w WT := ((below_then (hBE.grown hGp hBE.size (fun r e => by injection e with e; omega)) (by omega) hBQ).grown hGs (by omega) (fun r e => by injection e with e; omega)).grown hg4 (by omega) (fun r e => by injection e with e; omega)
                  have oT : ∀ k, k ≠ D → (WT.putObj D (.deferred none)).heap[k]? = WT.heap[k]? := fun k h => World.putObj_heap_other h
                  refine ⟨by simp, .inl ⟨_, _, rfl, run_takeDeferred dT, ?_⟩⟩
                  refine ⟨_, results_cell_row (p := 4) (ty := 25) rfl _ _ (w.heap.size + 1) 25 _ (0, 0) _ rfl ((oT _ (by omega)).trans rS3) Try.underlying25 rfl (by kernel_rfl), hBT.grown (grownBy_putObj' WT D (.deferred none)) (by omega) (fun r e => by injection e with e; omega), _, rfl, ?_⟩
                  intro wF hsF hkF
                  have zF : (WT.putObj D (.deferred none)).heap.size = WT.heap.size := by simp
                  have bT := G3 wF (by omega) (fun k h1 h2 h3 => (hkF k (by omega) (by omega)).trans ((oT k (by omega)).trans (kb k h2 (by omega) h3 (by omega))))
                  have eN : simpleP 65537 N a = ⟨withoutP (markS noS a) N.pre, [⟨1 + (kf : Int), 1, []⟩], 1 + (kf : Int)⟩ := by
                    rw [HOUT.out]; unfold endP; rw [if_pos (.inl rfl), if_neg (by decide), HGD.out, HK1.out]
                  rw [eN]
                  refine ⟨.slice Ao nP co, .slice (some ⟨WP.heap.size, 0, none⟩) 1 1, rfl, ?_, bT, gate_one ((hkF _ (by omega) (by omega)).trans ((oT _ (by omega)).trans gT)) ?_⟩
                  · show I64 (1 + (kf : Int)); unfold I64; omega
                  · unfold I64; omega
                · have hS9E' := hid hS9E
                  clear hS9E
                  go_wp2_with (go_at_call 42; refine CP.mono ?_; rintro e WP ⟨rfl, hGp, S', hS', hSS⟩; obtain rfl := hSS _ rfl; have G2p := row_grown G2 hGp hne; have p1 := frozen_of_row _ b19 1 _ _ G2p; have p2 := frozen_of_row _ b19 2 _ _ G2p; have c2p := cell_row G2p (j := 2) (v := .int .i64 (-65537)) rfl; have c1p := cell_row G2p (j := 1) (v := .slice none 0 0) rfl)
                  refine (CI _ hS').mono ?_
                  rintro e w' ⟨rfl, rfl⟩
                  obtain ⟨WP, rfl⟩ : ∃ WP, WP = w' := ⟨_, rfl⟩
                  clear c1p p1 p2 CP hS'
                  have gV : (Value.slice (some ⟨WP.heap.size, 0, none⟩) 1 1) = .slice (some ⟨WP.heap.size, 0, none⟩) 1 1 := rfl
                  have rP := row_grown rE hGp (by intro e; injection e with e; omega)
                  have dP := row_grown hDE hGp (by intro e; injection e with e; omega)
                  obtain ⟨WQ, hWQ, hcQ, -, hzQ, hBQ, hrowQ⟩ := new_block WP #[.int .i64 (1 + (kf : Int)), .int .u8 1, .slice none 0 0] 70
                  have G2q : WQ.heap[b19]? = _ := row_below G2p hBQ
                  have rQ := row_below rP hBQ
                  have q1 := frozen_of_row _ b19 1 _ _ G2q
                  have q1c := cell_row G2q (j := 1) (v := .slice none 0 0) rfl
                  have G2r : (WQ.setCell ⟨b19, 1, none⟩ (.slice (some ⟨WP.heap.size, 0, none⟩) 1 1)).heap[b19]? = some (.cells #[.slice Ao nP co, .slice (some ⟨WP.heap.size, 0, none⟩) 1 1, .int .i64 (-65537)] 25 (0, 0)) := row_set G2q _
                  have c2r := cell_row G2r (j := 2) (v := .int .i64 (-65537)) rfl
                  have r2 := frozen_of_row _ b19 2 _ _ G2r
                  have G2s : ((WQ.setCell ⟨b19, 1, none⟩ (.slice (some ⟨WP.heap.size, 0, none⟩) 1 1)).setCell ⟨b19, 2, none⟩ (.int .i64 (-(1 + (kf : Int))))).heap[b19]? = some (.cells #[.slice Ao nP co, .slice (some ⟨WP.heap.size, 0, none⟩) 1 1, .int .i64 (-(1 + (kf : Int)))] 25 (0, 0)) := row_set G2r _
                  have hGs : WQ.grownBy ((WQ.setCell ⟨b19, 1, none⟩ (.slice (some ⟨WP.heap.size, 0, none⟩) 1 1)).setCell ⟨b19, 2, none⟩ (.int .i64 (-(1 + (kf : Int))))) (some b19) := (grown_setCell WQ ⟨b19, 1, none⟩ _).trans (grown_setCell _ ⟨b19, 2, none⟩ _)
                  have rS := row_grown rQ hGs (by intro e; injection e with e; omega)
                  have s0 := cell_row G2s (j := 0) (v := (.slice Ao nP co)) rfl
                  have s1 := cell_row G2s (j := 1) (v := .slice (some ⟨WP.heap.size, 0, none⟩) 1 1) rfl
                  have s2 := cell_row G2s (j := 2) (v := .int .i64 (-(1 + (kf : Int)))) rfl
                  have rS1 := row_set rS (i := 0) (.slice Ao nP co)
                  have rS2 := row_set rS1 (i := 1) (.slice (some ⟨WP.heap.size, 0, none⟩) 1 1)
                  have rS3 := row_set rS2 (i := 2) (.int .i64 (-(1 + (kf : Int))))
                  have sf0 := frozen_of_row _ (w.heap.size + 1) 0 _ _ rS
                  have sf1 := frozen_of_row _ (w.heap.size + 1) 1 _ _ rS1
                  have sf2 := frozen_of_row _ (w.heap.size + 1) 2 _ _ rS2
                  have sc0 := cell_row rS (j := 0) (v := .slice none 0 0) rfl
                  have sc1 := cell_row rS1 (j := 1) (v := .slice none 0 0) rfl
                  have sc2 := cell_row rS2 (j := 2) (v := .int .i64 0) rfl
                  clear G2p c2p G2q gV hcQ
                  go_wp2_with fail
                  have hg4 : ((WQ.setCell ⟨b19, 1, none⟩ (.slice (some ⟨WP.heap.size, 0, none⟩) 1 1)).setCell ⟨b19, 2, none⟩ (.int .i64 (-(1 + (kf : Int))))).grownBy (((((WQ.setCell ⟨b19, 1, none⟩ (.slice (some ⟨WP.heap.size, 0, none⟩) 1 1)).setCell ⟨b19, 2, none⟩ (.int .i64 (-(1 + (kf : Int))))).setCell ⟨w.heap.size + 1, 0, none⟩ (.slice Ao nP co)).setCell ⟨w.heap.size + 1, 1, none⟩ (.slice (some ⟨WP.heap.size, 0, none⟩) 1 1)).setCell ⟨w.heap.size + 1, 2, none⟩ (.int .i64 (-(1 + (kf : Int))))) (some (w.heap.size + 1)) :=
                    ((grown_setCell _ ⟨w.heap.size + 1, 0, none⟩ _).trans (grown_setCell _ ⟨w.heap.size + 1, 1, none⟩ _)).trans (grown_setCell _ ⟨w.heap.size + 1, 2, none⟩ _)
                  clear sf0 sf1 sf2 sc0 sc1 sc2 rS1 rS2 s0 s1 s2 c2r r2 q1 q1c
                  revert rS3 hg4
                  generalize (((((WQ.setCell ⟨b19, 1, none⟩ (.slice (some ⟨WP.heap.size, 0, none⟩) 1 1)).setCell ⟨b19, 2, none⟩ (.int .i64 (-(1 + (kf : Int))))).setCell ⟨w.heap.size + 1, 0, none⟩ (.slice Ao nP co)).setCell ⟨w.heap.size + 1, 1, none⟩ (.slice (some ⟨WP.heap.size, 0, none⟩) 1 1)).setCell ⟨w.heap.size + 1, 2, none⟩ (.int .i64 (-(1 + (kf : Int))))) = WT
                  intro rS3 hg4
                  revert hGs hg4
                  generalize ((WQ.setCell ⟨b19, 1, none⟩ (.slice (some ⟨WP.heap.size, 0, none⟩) 1 1)).setCell ⟨b19, 2, none⟩ (.int .i64 (-(1 + (kf : Int))))) = WS at *
                  intro hGs hg4
                  have z1 := hGp.size
                  have z2 := hGs.size
                  have z3 := hg4.size
                  have z4 := hBE.size
                  have kb : ∀ k, k < WE.heap.size → k ≠ b9 → k ≠ b19 → k ≠ w.heap.size + 1 → WT.heap[k]? = WE.heap[k]? := fun k h1 h2 h3 h4 => by
                    refine (hg4.block k (by omega) (by intro e; injection e with e; exact h4 e)).trans ((hGs.block k (by omega) (by intro e; injection e with e; exact h3 e)).trans ((hBQ.block k (by omega)).trans (hGp.block k h1 (by intro e; injection e with e; exact h2 e))))
                  have dT : WT.heap[D]? = some (.deferred (some [])) := (kb D (by omega) (by omega) (by omega) (by omega)).trans hDE
                  have gT : WT.heap[WP.heap.size]? = some (.cells #[.int .i64 (1 + (kf : Int)), .int .u8 1, .slice none 0 0] 70 (0, 0)) :=
                    (hg4.block _ (by omega) (by intro e; injection e with e; omega)).trans ((hGs.block _ (by omega) (by intro e; injection e with e; omega)).trans hrowQ)
                  have hBT : Below w.heap.size w WT := ((below_then (hBE.grown hGp hBE.size (fun r e => by injection e with e; omega)) (by omega) hBQ).grown hGs (by omega) (fun r e => by injection e with e; omega)).grown hg4 (by omega) (fun r e => by injection e with e; omega)
                  have oT : ∀ k, k ≠ D → (WT.putObj D (.deferred none)).heap[k]? = WT.heap[k]? := fun k h => World.putObj_heap_other h
                  refine ⟨by simp, .inl ⟨_, _, rfl, run_takeDeferred dT, ?_⟩⟩
                  refine ⟨_, results_cell_row (p := 4) (ty := 25) rfl _ _ (w.heap.size + 1) 25 _ (0, 0) _ rfl ((oT _ (by omega)).trans rS3) Try.underlying25 rfl (by kernel_rfl), hBT.grown (grownBy_putObj' WT D (.deferred none)) (by omega) (fun r e => by injection e with e; omega), _, rfl, ?_⟩
                  intro wF hsF hkF
                  have zF : (WT.putObj D (.deferred none)).heap.size = WT.heap.size := by simp
                  have bT := G3 wF (by omega) (fun k h1 h2 h3 => (hkF k (by omega) (by omega)).trans ((oT k (by omega)).trans (kb k h2 (by omega) h3 (by omega))))
                  have eN : simpleP 65537 N a = ⟨withoutP (markS noS a) N.pre, [⟨1 + (kf : Int), 1, []⟩], -(1 + (kf : Int))⟩ := by
                    rw [HOUT.out]; unfold endP; rw [if_pos (.inr rfl), if_pos rfl, HGD.out, HK1.out]
                  rw [eN]
                  refine ⟨.slice Ao nP co, .slice (some ⟨WP.heap.size, 0, none⟩) 1 1, rfl, ?_, bT, gate_one ((hkF _ (by omega) (by omega)).trans ((oT _ (by omega)).trans gT)) ?_⟩
                  · show I64 (-(1 + (kf : Int))); unfold I64; omega
                  · unfold I64; omega
              · obtain ⟨hT1, hT2⟩ := not_or.1 hT
                have hz1 : (o == 65537) = false := by rw [beq_eq_false_iff_ne]; exact hT1
                have hz2 : (o == -65537) = false := by rw [beq_eq_false_iff_ne]; exact hT2
                have HHT := hid hT
                obtain ⟨b8, hb8e⟩ : ∃ b, b = W5.heap.size + 1 := ⟨_, rfl⟩
                rw [← hb8e] at hS8E ⊢
                have h8r : b8 < W9.heap.size ∧ w.heap.size + 1 + 1 < b8 ∧ D < b8 := by omega
                have CR := reached_any As stay.length cs o b8 WE
                have HS9E := hid hS9E
                clear hT hT1 hT2 hb8e hS9E hws
                go_wp2_with (go_at_call 66; refine CR.mono ?_; rintro e WL ⟨rfl, hBL, hzL, l0, l1, l2⟩)
                clear CR
                have z0 : WE.heap.size + 3 ≤ WL.heap.size := by omega
                clear hzL
                have hBRL : Below wr.heap.size wr WL := below_then G1 G1.size hBL
                have gL := row_below G2 hBL
                have hS8L := hS8E.below hBL
                have hDL := row_below hDE hBL
                have rL := row_below rE hBL
                have hBWL : Below w.heap.size w WL := below_then hBE hBE.size hBL
                have z8 : b8 < WL.heap.size := by omega
                have z19 : b19 < WL.heap.size := by omega
                obtain ⟨W0, hW0⟩ : ∃ W0, keepOnly (fun k => decide (W9.heap.size ≤ k) && decide (k < wr.heap.size)) WL = W0 := ⟨_, rfl⟩
                have s0 : W0.heap.size = WL.heap.size := by rw [← hW0]; exact keepOnly_size _ _
                have hSW : StayAt W0 W9.heap.size (.slice As stay.length cs) stay := HSt.out.keep (by omega) (fun k h1 h2 => by
                  rw [← hW0, keepOnly_same (by simp; omega)]
                  exact hBRL.block k h2)
                have zt : w.heap.size + 1 < WL.heap.size := by omega
                have hKF : ∀ w', (∀ k, W9.heap.size ≤ k → k < wr.heap.size → w'.heap[k]? = WL.heap[k]?) → Keeps W0 w' := fun w' hk => by
                  rw [← hW0]
                  exact keeps_only (fun k h1 _ => by simp only [Bool.and_eq_true, decide_eq_true_eq] at h1; exact hk k h1.1 h1.2)
                have hK0 : ∀ w', KeepX WL.heap.size (fun k => k = b19 ∨ k = b8) 70 WL w' → Keeps W0 w' := fun w' hk => hKF w' (fun k h1 h2 => hk.block k (by omega) (fun h => by
                  rcases h with (h | h) | ⟨h, _⟩
                  · omega
                  · omega
                  · omega))
                clear hW0
                have hGA := gates_of_stay hSW
                obtain ⟨es, hes⟩ := gates_list hGA
                have hsv : ∀ g ∈ stay, 0 ≤ g.var ∧ g.var ≤ 65536 := fun g hg => by
                  have e := HRG.out
                  have e2 : (N.gates.foldl (gateStep 65537) (fixM 65537 (varM noM (varsOf N.pre)) a, [])).2 = stay := by
                    show (gatesP 65537 (fixM 65537 (varM noM (varsOf N.pre)) a) N.gates).2 = stay
                    rw [e]
                  rcases gatesP_vars 65537 N.gates (fixM 65537 (varM noM (varsOf N.pre)) a) [] g (by rw [e2]; exact hg) with h | ⟨g0, h1, h2⟩
                  · cases h
                  · have := HGA.out g0 h1; rw [h2]; omega
                have hst : stay.length ≤ 1000000 := by omega
                have nX : ∀ k, k < WL.heap.size → k ≠ b19 → ¬ XB WL.heap.size (fun k => k = b19) 70 WL k := fun k h1 h2 h => by
                  rcases h with h | ⟨h, _⟩
                  · exact h2 h
                  · omega
                obtain ⟨es0, hes0⟩ : ∃ es0, reachL (upd noS (absN o) true) es.reverse = es0 := ⟨_, rfl⟩
                have SQ := reached_seq (Bg := WE.heap.size) (Bl := WE.heap.size + 1) (Bs := WE.heap.size + 2) (bs := b8) (t := 86) (n₀ := WL.heap.size) (X := fun k => k = b19) (T := 70) (by decide) (by decide) (by decide) (A := As) (c := cs) (gates := stay) (es := es) (lit := o) (S := noS) (w := WL) (w0 := W0)
                  (by omega) l0 l1 l2 hS8L (nX _ (by omega) (by omega)) (nX _ (by omega) (by omega)) (nX _ (by omega) (by omega)) (nX _ z8 (by omega)) (by omega) (by omega) (by omega) (fun k h => by omega) hes hK0 hsv
                rw [hes0] at SQ
                have hmem : ∀ x ∈ es0, x.2.1 ∈ stay ∧ IntsAt W0 x.2.2 x.2.1.ins ∧ I64 x.2.1.var ∧ 0 ≤ x.2.1.kind ∧ x.2.1.kind ≤ 255 := fun x hx => by
                  have h1 := reachL_mem _ _ x (by rw [hes0]; exact hx)
                  obtain ⟨k, hk, e⟩ := List.getElem_of_mem (List.mem_reverse.1 h1)
                  obtain ⟨-, h2, h3, -⟩ := hes.2 k x (by rw [← e]; exact List.getElem?_eq_getElem hk)
                  obtain ⟨_, _, _, _, _, _, _, _, h4⟩ := hGA.at_ k _ h2
                  exact ⟨List.mem_of_getElem? h2, h3, h4⟩
                have hlen0 : es0.length ≤ 1000000 := by
                  have := reachL_len es.reverse (upd noS (absN o) true)
                  rw [hes0, List.length_reverse, hes.1] at this
                  omega
                have HES := hid hes0
                have HMEM := hid hmem
                clear hes0 hmem l0 l1 l2 HSt hSW
                refine wp_rangeFunc_R (gf := 96) (lb := #[.pointer (some ⟨WE.heap.size + 2, 0, none⟩), .pointer (some ⟨WE.heap.size + 1, 0, none⟩), .pointer (some ⟨WE.heap.size, 0, none⟩)]) (encs := encG) (Kp := KeepX WL.heap.size (fun k => k = b19) 70) (row0 := some b8) (xs := es0) (Fin := fun _ => True) (w0 := WL) rfl (enters_of Try.func96 (by kernel_rfl) rfl)
                  (fun l J Jx W h1 h2 h3 h4 h5 => (SQ l J Jx W h1 h2 h3 h4 h5).mono (fun e w' h => ⟨h.1, h.2.imp (fun h => ⟨h.1, trivial⟩) id⟩)) (fun _ _ _ _ _ => trivial) (fun r e => by injection e with e; omega) KeepX.trans KeepX.record (Below.refl _ _) (fun x => rfl)
                  (fun pre W => ∃ A c, W.heap[b19]? = some (.cells #[.slice Ao nP co, .slice A pre.length c, .int .i64 o] 25 (0, 0)) ∧ W.ownsRow WL.heap.size 70 3 (.slice A pre.length c) pre.length (gcells (pre.map gtOf)) ∧ KeepX WL.heap.size (fun k => k = b19 ∨ k = b8) 70 WL W)
                  (fun _ _ _ => False)
                  (fun s A B row hs hG hr => by
                    obtain ⟨A1, c1, h1, h2, h3⟩ := hs
                    have hne : row ≠ some b19 := fun e => by
                      rcases hr _ e with h | ⟨h, _⟩
                      · injection h with h; omega
                      · omega
                    refine ⟨A1, c1, row_grown h1 hG hne, h2.kept hG ?_, h3.grown hG (fun r e => ?_)⟩
                    · cases ho : (Value.slice A1 s.length c1).ownBlock with
                      | none => exact .inl rfl
                      | some g =>
                        right; intro e
                        obtain ⟨cs', fr', hc⟩ := own_cells h2 ho
                        rcases hr g e.symm with h | ⟨_, o', ho', hn'⟩
                        · injection h with h
                          have := (h2.lt g ho).1
                          omega
                        · rw [hc] at ho'; injection ho' with ho'; rw [← ho'] at hn'; cases hn'
                    · rcases hr r e with h | ⟨h, _⟩
                      · injection h with h; exact .inl (.inl (.inr h.symm))
                      · exact .inr h)
                  (fun c s A B row hs hG hr => hs) ⟨none, 0, gL, World.ownsRow_nil _ _ _ _, KeepX.refl _ _ _ _⟩ ?round ?done ?stop
                case stop =>
                  rintro D c pre W _ _ h _
                  exact h.elim
                case round =>
                  rintro l pre ⟨i, g, vi⟩ rest W K hxs hl ⟨A1, c1, hrow, hown, hKX⟩ hK
                  obtain ⟨-, hix, hvx⟩ := HMEM.out (i, g, vi) (by rw [hxs]; simp)
                  obtain ⟨Ax, cx, e, hlx, hcx⟩ := hix.form
                  have e' : vi = .slice Ax g.ins.length cx := e
                  subst e'
                  clear e
                  obtain ⟨wN, hwN, hcN, -, hzN, hBN, hrowN⟩ := new_block W #[.int .i64 g.var, .int .u8 g.kind, .slice Ax g.ins.length cx] 70
                  have hKN : KeepX WL.heap.size (fun k => k = b19) 70 W wN := (KeepX.refl _ _ _ _).below hBN
                  have hownN := hown.kept (grown_of_below hBN none) (by cases (Value.slice A1 pre.length c1).ownBlock <;> simp)
                  dsimp only [encG]
                  gi_wp2
                  refine hK _ _ (hKN.from _ (fun k h => by omega)) hKN ⟨A1, c1, row_below hrow hBN, hownN, hKX.below hBN⟩ (fun Wb hgb hol hr hIb => ?_)
                  obtain ⟨A2, c2, hrow2, hown2, hKX2⟩ := hIb
                  have R6 := row_grown hrowN hgb (fun e => by
                    injection e with e
                    obtain ⟨o', ho', hn'⟩ := hol
                    rw [e, hrowN] at ho'; injection ho' with ho'; rw [← ho'] at hn'; cases hn')
                  clear hK hKN hownN hrow hown hKX hrowN hcN hgb hol hr
                  have d0 := cell_row R6 (j := 0) (v := .int .i64 g.var) rfl
                  have d1 := cell_row R6 (j := 1) (v := .int .u8 g.kind) rfl
                  have d2 := cell_row R6 (j := 2) (v := .slice Ax g.ins.length cx) rfl
                  have x1 := cell_row hrow2 (j := 1) (v := .slice A2 pre.length c2) rfl
                  have hbs : WL.heap.size ≤ Wb.heap.size := hKX2.size
                  have hpl : pre.length ≤ 1000000 := by have := congrArg List.length hxs; simp at this; omega
                  have hb40 : (pre.length + 1) * 40 ≤ 140737488355328 := by omega
                  gi_wp2_with (gi_at_builtin; refine append_oneIn (WL.heap.size) rfl _ _ 23 70 (.agg #[.int .i64 0, .int .u8 0, .slice none 0 0]) 3 40 rfl Try.underlying23 info70 rfl (by decide) (by decide) (.slice A2 pre.length c2) pre.length (gcells (pre.map gtOf)) #[.int .i64 g.var, .int .u8 g.kind, .slice Ax g.ins.length cx] rfl rfl rfl (by intro u hu; simp at hu; rcases hu with rfl | rfl | rfl <;> rfl) hown2 hbs hb40 ?_; intro g2 cap2 w4 hO4 hG4 hbg hlt4; have R19 := row_grown hrow2 hG4 (fun e => by have := (hown2.lt b19 e).1; omega); have x1' := cell_row R19 (j := 1) (v := .slice A2 pre.length c2) rfl; have xf := frozen_of_row _ b19 1 _ _ R19)
                  have K4 : KeepX WL.heap.size (fun k => k = b19) 70 Wb (w4.setCell ⟨b19, 1, none⟩ (.slice (some ⟨g2, 0, none⟩) (pre.length + 1) cap2)) :=
                    (((KeepX.refl _ _ _ _).grown hG4 (fun r e => by
                      obtain ⟨cs', fr', hc⟩ := own_cells hown2 e
                      exact .inl (.inr ⟨(hown2.lt r e).1, cs', fr', hc⟩)))).set _ _ rfl
                  refine ⟨K4.from _ (fun k h => by omega), K4, some ⟨g2, 0, none⟩, cap2, ?_, ?_, hKX2.trans (K4.weak (fun k h => .inl h))⟩
                  · rw [List.length_append]; exact row_set R19 _
                  · rw [List.length_append, List.map_append]
                    have e : gcells (pre.map gtOf ++ [gtOf (i, g, .slice Ax g.ins.length cx)]) = gcells (pre.map gtOf) ++ [.int .i64 g.var, .int .u8 g.kind, .slice Ax g.ins.length cx] := gcells_snoc _ _
                    show World.ownsRow _ _ _ _ _ _ (gcells (pre.map gtOf ++ [gtOf (i, g, .slice Ax g.ins.length cx)]))
                    rw [e]
                    exact hO4.kept (grown_setCell w4 ⟨b19, 1, none⟩ _) (.inr (fun e => by injection e with e; have e' : g2 = b19 := e; omega))
                case done =>
                  rintro D2 W6 hD2 ⟨A1, c1, hrow, hown, hKX⟩ - hdef
                  have CRv := reverse_own hown (by simp)
                  have y1 := cell_row hrow (j := 1) (v := .slice A1 es0.length c1) rfl
                  have hgo : ∀ b, (Value.slice A1 es0.length c1).ownBlock = some b → WL.heap.size ≤ b ∧ b < W6.heap.size := fun b hb => hown.lt b hb
                  have kL : ∀ k, k < WL.heap.size → k ≠ b19 → k ≠ b8 → W6.heap[k]? = WL.heap[k]? := fun k h1 h2 h3 => hKX.block k h1 (fun h => by
                    rcases h with (h | h) | ⟨h, _⟩
                    · exact h2 h
                    · exact h3 h
                    · omega)
                  have r6 := (kL (w.heap.size + 1) (by omega) (by omega) (by omega)).trans rL
                  have hs6 := hKX.size
                  have HO := hid hown
                  have HRW := hid hrow
                  clear hown hrow
                  go_wp2_with (go_at_call 89; refine CRv.mono ?_; rintro e W7 ⟨rfl, hG7, hO7⟩; have R7 := row_grown HRW.out hG7 (fun e => by have := (hgo b19 e).1; omega); have r7 := row_grown r6 hG7 (fun e => by have := (hgo _ e).1; omega); have v0 := cell_row R7 (j := 0) (v := .slice Ao nP co) rfl; have v1 := cell_row R7 (j := 1) (v := .slice A1 es0.length c1) rfl; have v2 := cell_row R7 (j := 2) (v := .int .i64 o) rfl; have rS1 := row_set r7 (i := 0) (.slice Ao nP co); have rS2 := row_set rS1 (i := 1) (.slice A1 es0.length c1); have rS3 := row_set rS2 (i := 2) (.int .i64 o); have sf0 := frozen_of_row _ (w.heap.size + 1) 0 _ _ r7; have sf1 := frozen_of_row _ (w.heap.size + 1) 1 _ _ rS1; have sf2 := frozen_of_row _ (w.heap.size + 1) 2 _ _ rS2; have sc0 := cell_row r7 (j := 0) (v := .slice none 0 0) rfl; have sc1 := cell_row rS1 (j := 1) (v := .slice none 0 0) rfl; have sc2 := cell_row rS2 (j := 2) (v := .int .i64 0) rfl)
                  have hg4 : W7.grownBy (((W7.setCell ⟨w.heap.size + 1, 0, none⟩ (.slice Ao nP co)).setCell ⟨w.heap.size + 1, 1, none⟩ (.slice A1 es0.length c1)).setCell ⟨w.heap.size + 1, 2, none⟩ (.int .i64 o)) (some (w.heap.size + 1)) :=
                    ((grown_setCell W7 ⟨w.heap.size + 1, 0, none⟩ _).trans (grown_setCell _ ⟨w.heap.size + 1, 1, none⟩ _)).trans (grown_setCell _ ⟨w.heap.size + 1, 2, none⟩ _)
                  clear sf0 sf1 sf2 sc0 sc1 sc2 rS1 rS2 v0 v1 v2 y1
                  revert rS3 hg4
                  generalize (((W7.setCell ⟨w.heap.size + 1, 0, none⟩ (.slice Ao nP co)).setCell ⟨w.heap.size + 1, 1, none⟩ (.slice A1 es0.length c1)).setCell ⟨w.heap.size + 1, 2, none⟩ (.int .i64 o)) = WT
                  intro rS3 hg4
                  have zz := hG7.size
                  have zz4 := hg4.size
                  have hD2lt := row_lt hdef
                  have zzE := hBE.size
                  have kT : ∀ k, k < WL.heap.size → k ≠ b19 → k ≠ b8 → k ≠ w.heap.size + 1 → WT.heap[k]? = WL.heap[k]? := fun k h1 h2 h3 h4 =>
                    (hg4.block k (by omega) (by intro e; injection e with e; exact h4 e)).trans ((hG7.block k (by omega) (fun e => by have := (hgo k e.symm).1; omega)).trans (kL k h1 h2 h3))
                  have dT : WT.heap[D]? = some (.deferred (some [])) := (kT D (by omega) (by omega) (by omega) (by omega)).trans hDL
                  have nD2 : ∀ b, (Value.slice A1 es0.length c1).ownBlock = some b → b ≠ D2 := fun b hb e => by
                    obtain ⟨cs', fr', hc⟩ := own_cells HO.out hb
                    rw [e, hdef] at hc; cases hc
                  have dT2 : WT.heap[D2]? = some (.deferred (some [])) := row_grown (row_grown hdef hG7 (fun e => nD2 D2 e rfl)) hg4 (by intro e; injection e with e; omega)
                  have oT : ∀ k, k ≠ D → k ≠ D2 → ((WT.putObj D2 (.deferred none)).putObj D (.deferred none)).heap[k]? = WT.heap[k]? := fun k h h2 => (World.putObj_heap_other h).trans (World.putObj_heap_other h2)
                  refine ⟨by simp, .inl ⟨_, _, rfl, run_takeDeferred dT2, ?_⟩⟩
                  refine ⟨by simp, .inl ⟨_, _, rfl, run_takeDeferred ((World.putObj_heap_other (by omega)).trans dT), ?_⟩⟩
                  obtain ⟨WF, hWF⟩ : ∃ WF, (WT.putObj D2 (.deferred none)).putObj D (.deferred none) = WF := ⟨_, rfl⟩
                  have zF : WF.heap.size = WT.heap.size := by rw [← hWF]; simp
                  have p1 := grownBy_putObj' WT D2 (.deferred none)
                  have p2 := grownBy_putObj' (WT.putObj D2 (.deferred none)) D (.deferred none)
                  rw [hWF] at p2 oT ⊢
                  clear hWF
                  have zp : (WT.putObj D2 (.deferred none)).heap.size = WT.heap.size := by simp
                  have hB6 : Below w.heap.size w W6 := hKX.toBelow hBWL (by omega) (fun k h => by omega)
                  have hB7 : Below w.heap.size w W7 := hB6.grown hG7 (by omega) (fun r e => by have := (hgo r e).1; omega)
                  have hBF : Below w.heap.size w WF := ((hB7.grown hg4 (by omega) (fun r e => by injection e with e; omega)).grown p1 (by omega) (fun r e => by injection e with e; omega)).grown p2 (by omega) (fun r e => by injection e with e; omega)
                  refine ⟨_, results_cell_row (p := 4) (ty := 25) rfl _ _ (w.heap.size + 1) 25 _ (0, 0) _ rfl ((oT _ (by omega) (by omega)).trans rS3) Try.underlying25 rfl (by kernel_rfl), hBF, _, rfl, ?_⟩
                  intro wX hsX hkX
                  have bT := G3 wX (by have := hKX.size; omega) (fun k h1 h2 h3 => (hkX k (by omega) (by have := hKX.size; omega)).trans ((oT k (by omega) (by omega)).trans ((kT k (by omega) h3 (by omega) (by omega)).trans (hBL.block k h2))))
                  have sO : ∀ r, r ≠ D2 ∧ r ≠ D ∧ r ≠ w.heap.size + 1 ∨ r < WL.heap.size ∨ r = D2 := fun r => by omega
                  have ne : ∀ (r : Nat), (r < WL.heap.size ∨ r = D2) → (Value.slice A1 es0.length c1).ownBlock = none ∨ (Value.slice A1 es0.length c1).ownBlock ≠ some r := fun r h => by
                    right; intro e
                    rcases h with h | h
                    · have := (hgo r e).1; omega
                    · exact nD2 r e h
                  have hOF0 := ((hO7.kept hg4 (ne _ (.inl (by omega)))).kept p1 (ne _ (.inr rfl))).kept p2 (ne _ (.inl (by omega)))
                  have hOF : wX.ownsRow WL.heap.size 70 3 (.slice A1 es0.length c1) es0.length (gcells (es0.map gtOf).reverse) := own_move hOF0 (fun b cs' fr hb hc => (hkX b (by omega) (row_lt hc)).trans hc)
                  have eG : es0.map (fun x : PE => x.2.1) = reachG (upd noS (absN o) true) stay.reverse := by
                    rw [← HES.out, reachL_map, List.map_reverse, es_gates hes]
                  have eN : simpleP 65537 N a = ⟨withoutP (markS noS a) N.pre, (es0.map (fun x : PE => x.2.1)).reverse, o⟩ := by
                    rw [HOUT.out, eG]; unfold endP; rw [if_neg HHT.out]
                  rw [eN]
                  refine ⟨.slice Ao nP co, .slice A1 es0.length c1, rfl, ?_, bT, ?_⟩
                  · show I64 o
                    have := BndM.mean hbM N.out
                    rw [HO2.out] at this
                    unfold I64; omega
                  · have lg : (es0.map (fun x : PE => x.2.1)).reverse.length = es0.length := by simp
                    refine gates_of_cells (base := WL.heap.size) (ts := (es0.map gtOf).reverse) (by simp) (by show wX.ownsRow WL.heap.size 70 3 (Value.slice A1 es0.length c1) ((es0.map (fun x : PE => x.2.1)).reverse).length _; rw [lg]; exact hOF) (by rw [lg]; omega) (fun i t g ht hg => ?_)
                    rw [← List.map_reverse, List.getElem?_map] at ht hg
                    obtain ⟨x, hx, rfl⟩ := Option.map_eq_some_iff.1 ht
                    rw [hx] at hg
                    injection hg with hg
                    subst hg
                    obtain ⟨-, hix, h64⟩ := HMEM.out x (List.mem_reverse.1 (List.mem_of_getElem? hx))
                    refine ⟨rfl, rfl, h64, ?_⟩
                    have hk : Keeps W0 wX := hKF wX (fun k h1 h2 => (hkX k (by omega) (by have := hKX.size; omega)).trans ((oT k (by omega) (by omega)).trans (kT k (by omega) (by omega) (by omega) (by omega))))
                    have hi2 := hix.keep hk
                    obtain ⟨A', c', e, _⟩ := hi2.form
                    have e2 : gtOf x = (x.2.1.var, x.2.1.kind, A', x.2.1.ins.length, c') := by unfold gtOf; rw [e]; rfl
                    rw [e2]
                    rw [e] at hi2
                    exact hi2
end Go.Proofs.Ytnlobmepajakcaa
