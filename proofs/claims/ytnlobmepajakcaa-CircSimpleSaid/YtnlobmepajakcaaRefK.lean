/- What the reference's simple does; the conditions: the net is valid, with at most 300 gates and 1,500 literals, the assignment's literals are literals. -/
import Derived.Test.YtnlobmepajakcaaRefW
import Derived.Test.YtnlobmepajakcaaRefX
import Derived.Test.YtnlobmepajakcaaRefR
import Derived.Test.YtnlobmepajakcaaSimR
import Derived.Test.YtnlobmepajakcaaOrdA
import Derived.Deep.RegionHeld3
import Derived.Deep.AppendLies
set_option linter.unusedVariables false
set_option linter.unusedSimpArgs false
namespace Go.Proofs.Ytnlobmepajakcaa
open Go.RowKit Go.Shelf
attribute [local go_sem] Oper.semAt_some

section
variable {P : Program} {ops : Array Oper} {o : Oper} {a : Act} {Q : Exit → Act → World → Prop} {K : Act → World → Prop} {E : Prop}
/-- append of one element of one's own, at a step of a region that draws its order. -/
theorem step_append_one {W : World} (base : Nat) (hgd : o.guard = none) (s x : Operand) (t e : TypeId) (z : Value) (size bytes : Nat)
    (ho : o.op = .call { callee := .builtin .append, args := #[s, x], argTypes := #[t, t] })
    (ht : P.underlying t = some (.slice e)) (hinfo : (P.info? e).map (fun i => (i.zero, i.size, i.bytes)) = some (some z, size, bytes)) (hz : z.cells.size = size) (hs0 : 0 < size) (hb0 : 0 < bytes)
    (v : Value) (n : Nat) (xs : List Value) (cs : Array Value) (hs : a.eval s = v) (hx : a.eval x = .slice (some ⟨W.heap.size, 0, none⟩) 1 1) (hcs : cs.size = size) (h1 : ∀ u ∈ cs.toList, u.oneCell' = true)
    (HO : W.ownsRow base e size v n xs) (hbase : base ≤ W.heap.size) (hl : (n + 1) * bytes ≤ 140737488355328)
    (h : ∀ g cap w1, w1.ownsRow base e size (.slice (some ⟨g, 0, none⟩) (n + 1) cap) (n + 1) (xs ++ cs.toList) → W.grownBy w1 v.ownBlock → (v.ownBlock = some g ∨ W.heap.size ≤ g) → base ≤ g → g < w1.heap.size →
      K (a.put o.dst (.slice (some ⟨g, 0, none⟩) (n + 1) cap)) w1) :
    if Region.wanted o (yielded ops a.tmps) = true then Oper.wp P o a (W.alloc (.cells cs e)).drew K Q else E := by
  obtain ⟨i0, hi, hzz⟩ := Option.map_eq_some_iff.1 hinfo
  simp only [Prod.mk.injEq] at hzz
  obtain ⟨hz0, hz1, hz2⟩ := hzz
  have hlen : n + 1 ≤ 140737488355328 := Nat.le_trans (Nat.le_mul_of_pos_right _ hb0) hl
  refine step_append_lies (w := (W.alloc (.cells cs e)).drew) hgd s x t ho base e i0 z size bytes ht hi hz0 hz1 hz2 hz hs0 v n xs hs (HO.alloc _).drew ⟨W.heap.size, 0, none⟩ 1 1 cs.toList hx (by simp [hcs])
    (World.news_of_block (cs := cs) (t := e) (fr := (0, 0)) (heap_alloc_new W _)) h1 (by omega) (by simp only [maxLen]; omega) hl (by simp; omega) (W.heap.size + 1) (by simp) ?_
  intro g cap w1 hown hg hat hlt
  obtain ⟨g', cap', e', hbg, hlt', _⟩ := own_form hown (by omega)
  cases e'
  refine h g cap w1 hown (World.grownBy.trans (World.grownBy_alloc W _ _) ⟨hg.os, hg.tape, hg.output, hg.size, hg.block⟩) (hat.imp id (fun e => by omega)) hbg hlt
end
theorem only_block {p : Nat → Bool} {w : World} {a : Addr} {v : Value} (h : (keepOnly p w).cell? a = some v) : p a.block = true := by
  cases hp : p a.block with
  | true => rfl
  | false =>
    exfalso
    have hlt := World.block_lt_of_cell? _ _ h
    rw [keepOnly_size] at hlt
    have : (keepOnly p w).heap[a.block]? = some (.deferred none) := by
      unfold keepOnly
      simp only [Array.getElem?_mapIdx, hp]
      rw [Array.getElem?_eq_getElem hlt]; rfl
    exact absurd h (cell_none this rfl rfl)
theorem mean_made (w : World) : MeanAt (w.alloc (.cells (madeCells #[Value.int .i64 0] 65537) 3)) w.heap.size 3 noM :=
  ⟨_, heap_alloc_new w _, made_size _, fun i hi => made_get 65537 i hi⟩
theorem keepx_below {n n₀ : Nat} {X : Nat → Prop} {T : TypeId} {w0 A B : World} (h : KeepX n₀ X T A B) (h0 : Below n w0 A) (hn : n ≤ n₀) (hX : ∀ k, X k → n ≤ k) (hs : n ≤ A.heap.size) (hw : n = w0.heap.size) : Below n w0 B := by
  subst hw; exact h.toBelow h0 hn hX
set_option maxRecDepth 100000 in
set_option maxHeartbeats 4000000 in
theorem simpleR_any (v va : Value) (N : PNet) (a : List Int) (w : World) (h : NetAt w v N) (ha : IntsAt w va a) (hM : mayP N = true) (hls : litSum N.gates ≤ 1500) (hgl : N.gates.length ≤ 300) (hal : ∀ x ∈ a, 1 ≤ absN x) :
    Calls Try.prog 40 #[v, va] w fun e w' => Below w.heap.size w w' ∧ ∃ v', e = .returned v' ∧ NetF w.heap.size w' v' (simpleP 65537 N a) := by
  have hps : (prefFrom none 0 noS N.pre).isSome = true := by rw [(mayP_pre hM).1]; rfl
  have hrng := pre_rng hps
  have hne : ∀ x ∈ N.pre, x.vars ≠ [] := alt_ne (preS_of hps).1
  have hstart := OkR.start hM a
  have HM := hid hM
  have HPS := hid hps
  clear hM hps
  obtain ⟨vp, vg, rfl, ho, hp, hgt⟩ := h
  obtain ⟨Ap, cp, rfl, hlp, hcp⟩ := hp.form
  obtain ⟨Ag, cg, rfl, hlg, hcg⟩ := hgt.form
  obtain ⟨Aa, ca, rfl, hla, hca⟩ := ha.form
  obtain ⟨w1, hw1, -, -, hz1, hB1, q1⟩ := new_block w #[.slice Ap N.pre.length cp, .slice Ag N.gates.length cg, .int .i64 N.out] 25
  obtain ⟨w2, hw2, -, -, hz2, hB2, q2⟩ := new_block w1 #[.slice none 0 0, .slice none 0 0, .int .i64 0] 25
  have mk3 := make26 65537 (by omega) w2
  have hM3 := mean_made w2
  obtain ⟨w3, hw3⟩ : ∃ w3, w2.alloc (.cells (madeCells #[Value.int .i64 0] 65537) 3) = w3 := ⟨_, rfl⟩
  rw [hw3] at mk3 hM3
  have hz3 : w3.heap.size = w2.heap.size + 1 := by rw [← hw3]; exact World.size_alloc _ _
  have hB3 : Below w2.heap.size w2 w3 := by rw [← hw3]; exact (Below.refl _ w2).alloc (Nat.le_refl _) _
  have mk4 := make47 w3
  have hS4 := set_made w3
  obtain ⟨w4, hw4⟩ : ∃ w4, w3.alloc (.cells (madeCells #[Value.bool false] 65537) 4) = w4 := ⟨_, rfl⟩
  rw [hw4] at mk4 hS4
  have hz4 : w4.heap.size = w3.heap.size + 1 := by rw [← hw4]; exact World.size_alloc _ _
  have hB4 : Below w3.heap.size w3 w4 := by rw [← hw4]; exact (Below.refl _ w3).alloc (Nat.le_refl _) _
  have B02 := below_then hB1 hB1.size hB2
  have B03 := below_then B02 B02.size hB3
  have B04 := below_then B03 B03.size hB4
  have hM4 := hM3.below hB4
  have Q1 := row_below (row_below (row_below q1 hB2) hB3) hB4
  have Q2 := row_below (row_below q2 hB3) hB4
  rw [hz1] at hz2 Q2
  rw [hz2] at hz3 mk3 hM4
  rw [hz3] at hz4 mk4 hS4
  have CV := Vars_any _ N.pre w4 (hp.keep (keeps_below B04)) hne (by have := hrng.2; omega)
  have n0 := cell_row Q1 (j := 0) (v := .slice Ap N.pre.length cp) rfl
  clear hw3 hw4 hM3
  have HRNG := hid hrng
  have HST := hid hstart
  clear hrng hstart
  rw [show ((65537 : Nat) : Int) = 65537 from rfl] at mk3
  go_enter Try.func40, Try.ntmps40
  go_wp2_with fail
  refine CV.mono ?_
  rintro e w5 ⟨vv, rfl, hO5, hB5⟩
  obtain ⟨Av, cv, rfl⟩ := own_shape hO5
  obtain ⟨n, hn⟩ : ∃ n, n = w.heap.size := ⟨_, rfl⟩
  have B04n : Below n w w4 := by rw [hn]; exact B04
  rw [← hn] at hz2 hz3 mk3 hM4 mk4 hS4 Q1 Q2 n0 ⊢
  have HN := hid hn
  have hM5 := hM4.below hB5
  have hS5 := hS4.below hB5
  have Q1 := row_below Q1 hB5
  have Q2 := row_below Q2 hB5
  have B05 : Below n w w5 := below_then B04n (by omega) hB5
  have hV5 : IntsAt w5 (.slice Av (varsOf N.pre).length cv) (varsOf N.pre) := ints_of_own hO5 (fun y hy => by have := HRNG.out.1 y hy; unfold I64; omega) (by have := HRNG.out.2; omega)
  have hVb : Hid (∀ b, (Value.slice Av (varsOf N.pre).length cv).ownBlock = some b → n + 4 ≤ b) := hid fun b hb => by have := (hO5.lt b hb).1; omega
  obtain ⟨z5, hz5⟩ : ∃ z, w5.heap.size = z := ⟨_, rfl⟩
  have hn5 : n + 4 ≤ z5 := by have := hB5.size; omega
  clear hn B04 B04n mk3 mk4 hM4 hS4 CV n0 hO5 hz1 hw1 hw2 hB1 hB2 hB3 hB4 q1 q2 B02 B03 hB5
  go_wp2_with fail
  go_loopg [8] (varsOf N.pre).length (fun gg s8 wr => ∃ k : Nat, k ≤ (varsOf N.pre).length ∧ (varsOf N.pre).length - k ≤ gg ∧ s8 = .int .i64 k ∧ w5.grownBy wr (some (n + 1 + 1)) ∧ MeanAt wr (n + 1 + 1) 3 (varM noM ((varsOf N.pre).take k)))
  case atStart => exact ⟨0, Nat.zero_le _, by omega, rfl, grown_of_below (Below.refl _ _) _, hM5⟩
  case round =>
    clear hM5
    obtain ⟨k, hk, hgk, rfl, hG, hMk⟩ := hrel
    have hVk := hV5.kept hG (fun b hb e => by have := hVb.out b hb; injection e with e; omega)
    by_cases hlt : k < (varsOf N.pre).length
    · obtain ⟨x, hx, hxm, -⟩ := nth hlt
      obtain ⟨bv, offv, rfl, hcx, -⟩ := hVk.at_ k x hx
      have hv1 := HRNG.out.2
      have hxr := HRNG.out.1 x hxm
      obtain ⟨q, hq⟩ : ∃ q : Nat, x = q := Int.eq_ofNat_of_zero_le (by omega)
      subst hq
      have hq1 : q < 65537 := by omega
      have hltz : (k : Int) < ((varsOf N.pre).length : Int) := by omega
      have hcs := fun p => cell_since hcx p
      have htk : varM noM ((varsOf N.pre).take (k + 1)) = upd (varM noM ((varsOf N.pre).take k)) q q := by rw [take_snoc hx, varM_snoc]; rfl
      have HTK := hid htk
      have hVB := hVb.out bv rfl
      have HMK := hid hMk
      clear htk hx hxm hxr hcx hVk hV5 hMk
      go_wp2_with fail
      refine region_tail 10 (by kernel_rfl) (by kernel_rfl) ?_
      simp only [List.take_succ_cons, List.take_zero, List.drop_succ_cons, List.drop_zero]
      repeat (first | go_big_quiet_step (fail) | quiet_step (fail))
      refine wpQuiet_nil ?_
      rintro W2 ⟨pw, hW2⟩
      have hB2' : Below wr.heap.size wr W2 := by rw [hW2]; exact since_below wr pw
      clear hW2 hcs
      have hM2 := HMK.out.below hB2'
      have c2 := hM2.cell q hq1
      have f2 := hM2.free q
      have HM2 := hid hM2
      clear hM2
      go_wp2_with fail
      go_roundg ((varsOf N.pre).length - (k + 1))
      case measure => omega
      case rel => exact ⟨k + 1, by omega, by omega, by go_num, (hG.trans (grown_of_below hB2' _)).trans (grown_setCell W2 ⟨n + 1 + 1, q, none⟩ _), by rw [HTK.out]; exact HM2.out.store q q⟩
    · have hltz : ¬ (k : Int) < ((varsOf N.pre).length : Int) := by omega
      rw [List.take_of_length_le (by omega : (varsOf N.pre).length ≤ k)] at hMk
      obtain ⟨W6, rfl⟩ : ∃ W6, W6 = wr := ⟨_, rfl⟩
      have hS6 := hS5.kept hG (by intro e; injection e with e; omega)
      have q1 := row_grown Q1 hG (by intro e; injection e with e; omega)
      have q2 := row_grown Q2 hG (by intro e; injection e with e; omega)
      have hz6 := hG.size
      have B06 : Below n w W6 := B05.grown hG (by omega) (fun r e => by injection e with e; omega)
      have hMs : MeanAt W6 (n + 1 + 1) 3 (fixM 1000000 (varM noM (varsOf N.pre)) (a.take 0)) := hMk
      have hSs : SetAt W6 (n + 1 + 1 + 1) 4 (markS noS (a.take 0)) := hS6
      clear hVk hV5 hMk hS6 hS5 Q1 Q2 hG
      go_wp2_with fail
      go_loopg [9] a.length (fun gg s9 wr => ∃ k : Nat, k ≤ a.length ∧ a.length - k ≤ gg ∧ s9 = .int .i64 k ∧ KeepX W6.heap.size (fun b => b = n + 1 + 1 ∨ b = n + 1 + 1 + 1) 0 W6 wr ∧
        SetAt wr (n + 1 + 1 + 1) 4 (markS noS (a.take k)) ∧ MeanAt wr (n + 1 + 1) 3 (fixM 1000000 (varM noM (varsOf N.pre)) (a.take k)))
      case atStart => exact ⟨0, Nat.zero_le _, by omega, rfl, KeepX.refl _ _ _ _, hSs, hMs⟩
      case round =>
        clear hSs hMs
        obtain ⟨k, hk, hgk, rfl, hK, hS, hMk⟩ := hrel
        by_cases hlt : k < a.length
        · obtain ⟨y, hy, hym, -⟩ := nth hlt
          have hBa : Below n w wr := keepx_below hK B06 (by omega) (fun b hb => by omega) (by omega) HN.out
          obtain ⟨ba, offa, rfl, hcy0, hy64⟩ := ha.at_ k y hy
          have hbl : ba < n := HN.out ▸ World.block_lt_of_cell? w _ hcy0
          have hcy := keeps_below (HN.out ▸ hBa) _ _ hcy0
          have hyp := hal y hym
          have CA := absR_any y wr hy64
          rw [absR_eq hyp] at CA
          have hq := absN_lt y
          obtain ⟨hy1, hy2, hy3⟩ := absN_pos hyp
          have htk : markS noS (a.take (k + 1)) = upd (markS noS (a.take k)) (absN y) true := by rw [take_snoc hy, markS_snoc]
          have htm : fixM 1000000 (varM noM (varsOf N.pre)) (a.take (k + 1)) = upd (fixM 1000000 (varM noM (varsOf N.pre)) (a.take k)) (absN y) (if y < 0 then -1000000 else 1000000) := by rw [take_snoc hy, fixM_snoc]
          have eq : y = (if y < 0 then -(absN y : Int) else (absN y : Int)) := by
            unfold absN absI
            split <;> omega
          have hltz : (k : Int) < (a.length : Int) := by omega
          have HTK := hid htk
          have HTM := hid htm
          have HEQ := hid eq
          clear htk htm eq hy hym hyp hy64 hal
          revert CA hq HTK HTM HEQ
          generalize absN y = q
          intro CA hq HTK HTM HEQ
          have hq2 : (q : Int) < 65537 := by omega
          have c1 := hS.cell q hq
          have f1 := hS.free q
          have hS1 := hS.store q true
          have hM1 := hMk.kept (grown_setCell wr ⟨n + 1 + 1 + 1, q, none⟩ (.bool true)) (by intro e; injection e with e; have e' : n + 1 + 1 + 1 = n + 1 + 1 := e; omega)
          have c2 := hM1.cell q hq
          have f2 := hM1.free q
          have hcy2 := (grown_setCell wr ⟨n + 1 + 1 + 1, q, none⟩ (.bool true)).cell hcy (by intro e; injection e with e; have e' : ba = n + 1 + 1 + 1 := e; omega)
          have hM2 := fun x => hM1.store q x
          have hS2 := fun x => hS1.kept (grown_setCell (wr.setCell ⟨n + 1 + 1 + 1, q, none⟩ (.bool true)) ⟨n + 1 + 1, q, none⟩ (.int .i64 x)) (by intro e; injection e with e; have e' : n + 1 + 1 = n + 1 + 1 + 1 := e; omega)
          have hK2 := fun x => (hK.set ⟨n + 1 + 1 + 1, q, none⟩ (.bool true) (.inr rfl)).set ⟨n + 1 + 1, q, none⟩ (.int .i64 x) (.inl rfl)
          have HH := hid (And.intro hM2 (And.intro hS2 hK2))
          clear hM2 hS2 hK2 hM1 hS1 hMk hS hK hcy0 hBa
          by_cases hy0 : y < 0
          · have e5 : (if y < 0 then (-1000000 : Int) else 1000000) = -1000000 := if_pos hy0
            have hd0 : decide (0 < y) = false := decide_eq_false (by omega)
            have ey : y = -(q : Int) := by have := HEQ.out; rw [if_pos hy0] at this; exact this
            have h4 : IntKind.i64.wrap (-y) = (q : Int) := by rw [ey, Int.neg_neg]; exact IntWalk.i64_in _ (by omega)
            have HE5 := hid e5
            clear e5 ey hy0 hy1 hy2 hy3
            go_wp2_with (first | (go_at_call 30; refine CA.mono ?_; rintro e w' ⟨rfl, hw⟩; obtain rfl : wr = w' := hw.symm) | fail)
            go_roundg (a.length - (k + 1))
            case measure => omega
            case rel => exact ⟨k + 1, by omega, by omega, by go_num, HH.out.2.2 _, by rw [HTK.out]; exact HH.out.2.1 _, by rw [HTM.out, HE5.out]; exact HH.out.1 _⟩
          · have e5 : (if y < 0 then (-1000000 : Int) else 1000000) = 1000000 := if_neg hy0
            have ey : y = (q : Int) := by have := HEQ.out; rw [if_neg hy0] at this; exact this
            rw [e5] at HTM
            clear e5 HEQ
            subst ey
            have hd0 : 0 < q := by omega
            clear hy0 hy1 hy2 hy3
            go_wp2_with (first | (go_at_call 30; refine CA.mono ?_; rintro e w' ⟨rfl, hw⟩; obtain rfl : wr = w' := hw.symm) | fail)
            go_roundg (a.length - (k + 1))
            case measure => omega
            case rel => exact ⟨k + 1, by omega, by omega, by go_num, HH.out.2.2 _, by rw [HTK.out]; exact HH.out.2.1 _, by rw [HTM.out]; exact HH.out.1 _⟩
        · have hltz : ¬ (k : Int) < (a.length : Int) := by omega
          rw [List.take_of_length_le (by omega : a.length ≤ k)] at hS hMk
          obtain ⟨W7, rfl⟩ : ∃ W7, W7 = wr := ⟨_, rfl⟩
          have B07 : Below n w W7 := keepx_below hK B06 (by omega) (fun b hb => by omega) (by omega) HN.out
          have hz7 := hK.size
          have Q1 := (hK.old (k := n) (by omega) (by omega) (by omega)).trans q1
          have Q2 := (hK.old (k := n + 1) (by omega) (by omega) (by omega)).trans q2
          have HR : Rem (simpleM 1000000 N a) ((N.gates.drop 0).foldl (gateStep 1000000) (fixM 1000000 (varM noM (varsOf N.pre)) a, [])) := ⟨rfl⟩
          have HOK : Hid (OkR (N.gates.drop 0) (fixM 1000000 (varM noM (varsOf N.pre)) a)) := HST
          clear hK q1 q2 HST
          revert HR HOK hMk
          generalize fixM 1000000 (varM noM (varsOf N.pre)) a = M0
          intro hMk HR HOK
          have HSf := hid hS
          clear hS hal
          go_wp2_with fail
          go_loopg [10, 11, 12, 13, 14, 15, 16] N.gates.length (fun gg s10 s11 _ _ _ _ _ wr => ∃ (k : Nat) (M : Nat → Int) (stay : List PGate), k ≤ N.gates.length ∧ N.gates.length - k ≤ gg ∧ s11 = .int .i64 k ∧ W7.grownBy wr (some (n + 1 + 1)) ∧ MeanAt wr (n + 1 + 1) 3 M ∧ Aside (OkR (N.gates.drop k) M) ∧
            StayAt wr W7.heap.size s10 stay ∧ stay.length ≤ k ∧ Rem (simpleM 1000000 N a) ((N.gates.drop k).foldl (gateStep 1000000) (M, stay)))
          case atStart => exact ⟨0, M0, [], Nat.zero_le _, by omega, rfl, grown_of_below (Below.refl _ _) _, hMk, HOK.out, StayAt.nil _ _, Nat.le_refl _, HR⟩
          case round =>
            clear hMk HR HOK
            obtain ⟨k, M, stay, hk, hgk, rfl, hG, hMr, hok, hSt, hsl, HA⟩ := hrel
            have P1 := row_grown Q1 hG (by intro e; injection e with e; omega)
            have p0 := cell_row P1 (j := 0) (v := .slice Ap N.pre.length cp) rfl
            have p1 := cell_row P1 (j := 1) (v := .slice Ag N.gates.length cg) rfl
            have p2 := cell_row P1 (j := 2) (v := .int .i64 N.out) rfl
            have hBr : Below n w wr := B07.grown hG (by omega) (fun r e => by injection e with e; omega)
            by_cases hlt : k < N.gates.length
            · obtain ⟨g, hgx, hgm, hgd⟩ := nth hlt
              rw [hgd] at hok
              have SR := OkR.step hok
              have hMb := hok.bnd
              obtain ⟨bg, offg, vi, rfl, hc0, hc1, hc2, hi, hg64, hkd0, hkd1⟩ := (hgt.keep (keeps_below (HN.out ▸ hBr))).at_ k g hgx
              obtain ⟨Ai, ci, rfl, hli, hci⟩ := hi.form
              obtain ⟨As, cs, rfl, hAs1, hAs2⟩ := hSt.form
              have hltz : (k : Int) < (N.gates.length : Int) := by omega
              obtain ⟨wA, hwA, hcA, hfA, hzA, hBA, hrowA⟩ := new_block wr #[.int .i64 g.var, .int .u8 g.kind, .slice Ai g.ins.length ci] 70
              have x2 := cell_row hrowA (j := 2) (v := .slice Ai g.ins.length ci) rfl
              have hgi : g.ins.length ≤ 1500 := Nat.le_trans (lit_le hgm) hls
              have HSR := hid SR
              have HMB := hid hMb
              have HGD := hid (And.intro hgd hok)
              have HSt := hid hSt
              have HRA := hid hrowA
              have HG64 := hid (And.intro hg64 (And.intro hkd0 hkd1))
              clear hgx hcA hfA SR hMb hok hgd hSt hrowA hg64 hkd0 hkd1
              go_wp2_with fail
              obtain ⟨V, rfl⟩ : ∃ V, V = wr := ⟨_, rfl⟩
              go_loopg [13, 14] g.ins.length (fun gg s13 s14 W' => ∃ (j : Nat) (Al : Option Addr) (cl : Nat) (l : List Int), j ≤ g.ins.length ∧ g.ins.length - j ≤ gg ∧ s14 = .int .i64 j ∧ s13 = .slice Al l.length cl ∧ Below wA.heap.size wA W' ∧ W'.ownsRow wA.heap.size 3 1 (.slice Al l.length cl) l.length (nums l) ∧ l.length ≤ j ∧ Aside (l = (g.ins.take j).map (meanL M)))
              case atStart => exact ⟨0, none, 0, [], Nat.zero_le _, by omega, rfl, rfl, Below.refl _ _, World.ownsRow_nil _ _ _ _, Nat.le_refl _, rfl⟩
              case round =>
                obtain ⟨j, Al, cl, l, hj, hgj, rfl, rfl, hBj, hOl, hlj, hT⟩ := hrel
                have hVj : Below V.heap.size V wr := below_then hBA hBA.size hBj
                have x2j := keeps_below hBj _ _ x2
                have hMj : MeanAt wr (n + 1 + 1) 3 M := hMr.below hVj
                by_cases hltj : j < g.ins.length
                · obtain ⟨y, hy, hym, -⟩ := nth hltj
                  obtain ⟨b2, off2, rfl, hcy, -⟩ := (hi.keep (keeps_below hVj)).at_ j y hy
                  have hltzj : (j : Int) < (g.ins.length : Int) := by omega
                  have hyl := HSR.out.lits y hym
                  have CM := meantR_any (n + 1 + 1) M y wr hMj hyl.1 hyl.2 HMB.out
                  have htk : (g.ins.take (j + 1)).map (meanL M) = (g.ins.take j).map (meanL M) ++ [meanL M y] := by rw [take_snoc hy, List.map_append]; rfl
                  have HTK := hid htk
                  have HT := hid hT
                  have hwo := hBj.size
                  clear htk hy hym hyl hT hMj
                  revert CM HTK
                  generalize meanL M y = my
                  intro CM HTK
                  go_wp2_with (first | (go_at_call 83; refine CM.mono ?_; rintro e w' ⟨rfl, hw⟩; obtain rfl : wr = w' := hw.symm) | (at_builtin; refine append_one wA.heap.size rfl _ _ 26 3 (.int .i64 0) 1 8 rfl Try.underlying26 info3 rfl (by decide) (by decide) (.slice Al l.length cl) l.length (nums l) #[.int .i64 my] rfl rfl rfl (by intro u hu; simp at hu; subst hu; rfl) hOl hwo (by omega) ?_; intro g3 cap w3 hO3 hG3 hg3 hbg hlt3))
                  have hB3 : Below wA.heap.size wA w3 := hBj.grown hG3 hBj.size (fun q e => (hOl.lt q e).1)
                  rw [nums_snoc] at hO3
                  go_roundg (g.ins.length - (j + 1))
                  case measure => omega
                  case rel =>
                    refine ⟨j + 1, some ⟨g3, 0, none⟩, cap, l ++ [my], by omega, by omega, by go_num, by simp, hB3, by simpa using hO3, by simp; omega, ?_⟩
                    show l ++ [my] = _
                    rw [HTK.out, ← (show l = _ from HT.out)]
                · have hltzj : ¬ (j : Int) < (g.ins.length : Int) := by omega
                  rw [List.take_of_length_le (by omega : g.ins.length ≤ j)] at hT
                  have hT' : l = g.ins.map (meanL M) := hT
                  have hIl : IntsAt wr (.slice Al l.length cl) l := ints_of_own hOl (fun y hy => by rw [hT'] at hy; have := HSR.out.vals y hy; unfold I64; omega) (by omega)
                  obtain ⟨m, hm⟩ : ∃ m : Nat, g.var = m := Int.eq_ofNat_of_zero_le (by have := HSR.out.var; omega)
                  have hm1 : m < 65537 := by have := HSR.out.var; omega
                  have CS := meaning_any (m : Int) g.kind l Ai g.ins.length ci (.slice Al l.length cl) wr hIl (by rw [hT']; exact HSR.out.vals) (by rw [hT']; exact HSR.out.nz) (by omega) (by rw [hT', List.length_map]; exact HSR.out.shape)
                  have hstep : gateStep 1000000 (M, stay) g = if (simplP 1000000 g.kind l).1 = 0 then (upd M m g.var, stay ++ [⟨g.var, (simplP 1000000 g.kind l).2.1, (simplP 1000000 g.kind l).2.2⟩])
                      else (upd M m (simplP 1000000 g.kind l).1, stay) := by
                    unfold gateStep; rw [hT', hm]; rfl
                  have hA2 : simpleM 1000000 N a = (N.gates.drop (k + 1)).foldl (gateStep 1000000) (gateStep 1000000 (M, stay) g) := by rw [HA.out, HGD.out.1]; rfl
                  have hnext := HSR.out.next stay
                  have R0 := row_below HRA.out hBj
                  rw [hm] at R0
                  have hVW := hBj.size
                  have hLb : ∀ b, (Value.slice Al l.length cl).ownBlock = some b → V.heap.size < b ∧ b < wr.heap.size := fun b hb => by have := hOl.lt b hb; omega
                  have hkb := simplP_kind 1000000 g.kind l
                  have HSTP := hid (And.intro hstep (And.intro hA2 (And.intro hnext (And.intro hLb hkb))))
                  have e0 := cell_row R0 (j := 0) (v := .int .i64 (m : Int)) rfl
                  have e1 := cell_row R0 (j := 1) (v := .int .u8 g.kind) rfl
                  clear hstep hA2 hnext hLb hkb hT hT' hOl hIl hj hgj hlj
                  revert CS HSTP
                  generalize (simplP 1000000 g.kind l).1 = r1
                  generalize (simplP 1000000 g.kind l).2.1 = r2
                  generalize (simplP 1000000 g.kind l).2.2 = r3
                  intro CS HSTP
                  obtain ⟨W8, rfl⟩ : ∃ W8, W8 = wr := ⟨_, rfl⟩
                  have hszV := hG.size
                  have hVV := hVj.size
                  by_cases hr1 : r1 = 0
                  · subst hr1
                    go_wp2_with fail
                    refine CS.mono ?_
                    rintro e w9 ⟨hB9, k', Ah, nh, ch, rfl, hst⟩
                    obtain ⟨rfl, hIh, hfb⟩ := hst rfl
                    have HIH := hid (And.intro hIh hfb)
                    clear hst hIh hfb
                    obtain ⟨wD, hwD, -, -, -, hBD, hrowD⟩ := new_block w9 #[.int .i64 (m : Int), .int .u8 k', .slice Ah nh ch] 70
                    have B8D := below_then hB9 hB9.size hBD
                    have e0D := keeps_below B8D _ _ e0
                    have d0 := cell_row hrowD (j := 0) (v := .int .i64 (m : Int)) rfl
                    have d1 := cell_row hrowD (j := 1) (v := .int .u8 k') rfl
                    have d2 := cell_row hrowD (j := 2) (v := .slice Ah nh ch) rfl
                    have SD := HSt.out.below (below_then hVj hVj.size B8D)
                    obtain ⟨xs, hxs⟩ := SD.row
                    have hbs : W7.heap.size ≤ wD.heap.size := by (have := B8D.size; omega)
                    have hb40 : (stay.length + 1) * 40 ≤ 140737488355328 := by omega
                    have MD := hid (hMj.below B8D)
                    have HSD := hid SD
                    clear SD
                    go_wp2_with (at_builtin; go_must (refine append_one (W7.heap.size) rfl _ _ 23 70 (.agg #[.int .i64 0, .int .u8 0, .slice none 0 0]) 3 40 rfl Try.underlying23 info70 rfl (by decide) (by decide) (.slice As stay.length cs) stay.length xs #[.int .i64 (m : Int), .int .u8 k', .slice Ah nh ch] rfl rfl rfl (by intro u hu; simp at hu; rcases hu with rfl | rfl | rfl <;> rfl) hxs hbs hb40 ?_); intro g2 cap2 w4 hO4 hG4 hg4 hbg hlt4; have hown : ∀ b, (Value.slice As stay.length cs).ownBlock = some b → W7.heap.size ≤ b ∧ b < V.heap.size := fun b hb => ⟨(hxs.lt b hb).1, ((Exists.choose_spec HSt.out.row).lt b hb).2⟩; have e04 := hG4.cell e0D (fun e => by have := hown _ e.symm; have h2 : V.heap.size < V.heap.size := this.2; omega); have M4 := MD.out.kept hG4 (fun e => by have := hown _ e; omega); have c4 := M4.cell m hm1; have f4 := M4.free m; have HM4 := hid M4; clear M4)
                    obtain ⟨hstep, hA2, hnext, hLb, hkb⟩ := HSTP.out
                    replace hstep := hstep.trans (if_pos (by trivial))
                    rw [hstep] at hA2 hnext
                    go_roundg (N.gates.length - (k + 1))
                    case measure => omega
                    case rel =>
                      have GV := grown_far hG (grown_of_below (below_then hVj hVj.size B8D) none) (fun r e => by cases e)
                      have GW := grown_far GV hG4 (fun r e => (hown r e).1)
                      refine ⟨k + 1, upd M m g.var, stay ++ [⟨g.var, k', r3⟩], by omega, by omega, by go_num, GW.trans (grown_setCell w4 ⟨n + 1 + 1, m, none⟩ _), by rw [hm]; exact HM4.out.store m m, hnext, ?_, by simp; omega, ⟨hA2⟩⟩
                      have hiD := HIH.out.1.keep (keeps_below hBD)
                      have h := StayAt.push (x := ⟨g.var, k', r3⟩) (vo1 := .slice (some ⟨g2, 0, none⟩) (stay.length + 1) cap2) HSD.out (Below.refl _ wD) ⟨HG64.out.1, hkb.1, hkb.2⟩ hiD (fun hp b hb => by
                          have hbD : b < wD.heap.size := by
                            obtain ⟨A', c', e, q1, q2, q3⟩ := hiD
                            cases e
                            obtain ⟨b', off', rfl, q4⟩ := q3 hp
                            obtain ⟨z, hz, -, -⟩ := nth hp
                            injection hb with hb
                            have hb' : b' = b := hb
                            rw [← hb']
                            exact World.block_lt_of_cell? _ _ (q4 0 z hz).1
                          have hbV : V.heap.size < b := by
                            rcases HIH.out.2 b hb with h | h
                            · exact (hLb b h).1
                            · have := HRA.out; have := hVW; have := hzA; omega
                          exact ⟨fun e => by have := (hown b e).2; omega, by omega, hbD⟩) (fun ys hys => by rw [own_unique hys hxs, hm]; exact hO4) hG4 (fun b hb => by
                          injection hb with hb
                          have hb' : g2 = b := hb
                          rw [← hb']; exact hg4)
                      have h2 := h.grown (grown_setCell w4 ⟨n + 1 + 1, m, none⟩ (.int .i64 (m : Int))) (fun r e => by injection e with e; have e' : n + 1 + 1 = r := e; omega)
                      simpa using h2
                  · have hrb : (r1 == 0) = false := by rw [beq_eq_false_iff_ne]; exact hr1
                    have HR1 := hid hr1
                    clear hr1
                    go_wp2_with fail
                    refine CS.mono ?_
                    rintro e w9 ⟨hB9, k', Ah, nh, ch, rfl, hst⟩
                    have HST9 := hid hst
                    clear hst
                    obtain ⟨wD, hwD, -, -, -, hBD, hrowD⟩ := new_block w9 #[.int .i64 (m : Int), .int .u8 k', .slice Ah nh ch] 70
                    have B8D := below_then hB9 hB9.size hBD
                    have e0D := keeps_below B8D _ _ e0
                    have MD := hMj.below B8D
                    have c4 := MD.cell m hm1
                    have f4 := MD.free m
                    have HMD := hid MD
                    clear MD
                    go_wp2_with fail
                    obtain ⟨hstep, hA2, hnext, hLb, hkb⟩ := HSTP.out
                    rw [if_neg HR1.out] at hstep
                    rw [hstep] at hA2 hnext
                    go_roundg (N.gates.length - (k + 1))
                    case measure => omega
                    case rel =>
                      have GV := grown_far hG (grown_of_below (below_then hVj hVj.size B8D) none) (fun r e => by cases e)
                      exact ⟨k + 1, upd M m r1, stay, by omega, by omega, by go_num, GV.trans (grown_setCell wD ⟨n + 1 + 1, m, none⟩ _), HMD.out.store m r1, hnext, (HSt.out.below (below_then hVj hVj.size B8D)).grown (grown_setCell wD ⟨n + 1 + 1, m, none⟩ (.int .i64 r1)) (fun r e => by injection e with e; have e' : n + 1 + 1 = r := e; omega), by omega, ⟨hA2⟩⟩
            · have hltz : ¬ (k : Int) < (N.gates.length : Int) := by omega
              have hR : simpleM 1000000 N a = (M, stay) := by rw [HA.out, List.drop_eq_nil_of_le (by omega)]; rfl
              have ER := end_R HM.out hR
              obtain ⟨As, cs, rfl, hAs1, hAs2⟩ := hSt.form
              have hbl : ∀ x ∈ N.pre, x.vars ≠ [] ∧ x.vars.length ≤ 65536 ∧ ∀ y ∈ x.vars, 0 ≤ y ∧ y ≤ 65536 := fun x hx => by
                have h1 := block_le hx
                have h2 := HRNG.out.2
                exact ⟨hne x hx, by omega, fun y hy => by have := HRNG.out.1 y (h1.2 y hy); omega⟩
              have hpl : N.pre.length ≤ 65536 := by have h1 := blocks_le hne; have h2 := HRNG.out.2; omega
              have HBL := hid hbl
              have HER := hid ER
              have HSt := hid hSt
              have HMB := hid hok.bnd
              clear hR ER hSt HA hok hbl
              go_wp2_with fail
              obtain ⟨W8, rfl⟩ : ∃ W8, W8 = wr := ⟨_, rfl⟩
              have HM9 := hid hMr
              have hVr := hG.size
              have KS : ∀ W, Below W8.heap.size W8 W → (Below W8.heap.size W8 W ∧ W.cell? ⟨n, 0, none⟩ = some (.slice Ap N.pre.length cp) ∧ W.cell? ⟨n, 2, none⟩ = some (.int .i64 N.out)) := fun W hW => ⟨hW, keeps_below hW _ _ p0, keeps_below hW _ _ p2⟩
              have hS7 : SetAt W8 (n + 1 + 1 + 1) 4 (markS noS a) := HSf.out.kept hG (by intro e; injection e with e; have e' : n + 1 + 1 = n + 1 + 1 + 1 := e; omega)
              have hpW : BlocksAt W8 (.slice Ap N.pre.length cp) N.pre := hp.keep (keeps_below (HN.out ▸ hBr))
              have CW : ∀ W, Below W8.heap.size W8 W → Calls Try.prog 85 #[.slice Ap N.pre.length cp, .slice (some ⟨n + 1 + 1 + 1, 0, none⟩) 65537 65537] W fun e w' => Below W.heap.size W w' ∧ ∃ vo, e = .returned vo ∧ OutAt w' W.heap.size vo (withoutP (markS noS a) N.pre) := fun W hW =>
                outR_any _ N.pre (n + 1 + 1 + 1) (markS noS a) W (hpW.keep (keeps_below hW)) (hS7.below hW) hpl HBL.out
              have CM : ∀ W, Below W8.heap.size W8 W → Calls Try.prog 83 #[.slice (some ⟨n + 1 + 1, 0, none⟩) 65537 65537, .int .i64 N.out] W fun e w' => e = .returned (.int .i64 (meanL M N.out)) ∧ w' = W := fun W hW =>
                meantR_any (n + 1 + 1) M N.out W (HM9.out.below hW) HER.out.out.1 HER.out.out.2 HMB.out
              have hBd0 := (Below.refl W8.heap.size W8).drew
              have KS3 : ∀ W b v0 v1 v2, Below W8.heap.size W8 W → W8.heap.size ≤ b → (Below W8.heap.size W8 (((W.setCell ⟨b, 0, none⟩ v0).setCell ⟨b, 1, none⟩ v1).setCell ⟨b, 2, none⟩ v2) ∧ (((W.setCell ⟨b, 0, none⟩ v0).setCell ⟨b, 1, none⟩ v1).setCell ⟨b, 2, none⟩ v2).cell? ⟨n, 0, none⟩ = some (.slice Ap N.pre.length cp) ∧ (((W.setCell ⟨b, 0, none⟩ v0).setCell ⟨b, 1, none⟩ v1).setCell ⟨b, 2, none⟩ v2).cell? ⟨n, 2, none⟩ = some (.int .i64 N.out)) := fun W b v0 v1 v2 hW hb =>
                KS _ (((hW.setCell (p := ⟨b, 0, none⟩) hb v0).setCell (p := ⟨b, 1, none⟩) hb v1).setCell (p := ⟨b, 2, none⟩) hb v2)
              have hZ : ∀ W', Below (W8.alloc (.cells #[.slice none 0 0, .slice none 0 0, .int .i64 0] 25)).drew.heap.size (W8.alloc (.cells #[.slice none 0 0, .slice none 0 0, .int .i64 0] 25)).drew W' → W'.heap[W8.heap.size]? = some (.cells #[.slice none 0 0, .slice none 0 0, .int .i64 0] 25 (0, 0)) := fun W' hW' => by
                have h0 : (W8.alloc (.cells #[.slice none 0 0, .slice none 0 0, .int .i64 0] 25)).drew.heap[W8.heap.size]? = some (.cells #[.slice none 0 0, .slice none 0 0, .int .i64 0] 25 (0, 0)) := heap_alloc_new W8 _
                exact row_below h0 hW'
              have HHS := hid (And.intro hS7 hpW)
              have hvp : ∀ y ∈ varsOf N.pre, 0 ≤ y ∧ y ≤ 65536 := fun y hy => by have := HRNG.out.1 y hy; omega
              have HW64 : Hid (∀ x ∈ withoutP (markS noS a) N.pre, ∀ y ∈ x.vars, I64 y) := hid (withoutP_rng _ hvp)
              clear hS7 hMr hpW hvp
              refine (fun (H : BoxP ?G2) => ?main2) (BoxP.mk ?key2)
              case main2 =>
                go_region_held3 (fun w' => Below W8.heap.size W8 w' ∧ w'.cell? ⟨n, 0, none⟩ = some (.slice Ap N.pre.length cp) ∧ w'.cell? ⟨n, 2, none⟩ = some (.int .i64 N.out)) (first | exact KS _ (by assumption) | exact KS _ (Below.alloc (by assumption) (Below.size (by assumption)) _) | exact KS _ ((Below.refl W8.heap.size W8).alloc (Nat.le_refl _) _).drew | exact KS3 _ _ _ _ _ (by assumption) (Nat.le_refl _) | exact KS3 _ _ _ _ _ (by assumption) (Below.size (by assumption)) | skip)
                  (first | (go_at_call 85; refine (CW _ (by first | assumption | exact Below.alloc (by assumption) (Below.size (by assumption)) _ | exact ((Below.refl W8.heap.size W8).alloc (Nat.le_refl _) _).drew)).mono ?_; rintro e w' ⟨hB60, vo, rfl, hO⟩; obtain ⟨Ao, co, rfl, hol⟩ := hO.form; have hBx : Below W8.heap.size W8 w' := below_then (by first | assumption | exact Below.alloc (by assumption) (Below.size (by assumption)) _ | exact ((Below.refl W8.heap.size W8).alloc (Nat.le_refl _) _).drew) (Below.size (by first | assumption | exact Below.alloc (by assumption) (Below.size (by assumption)) _ | exact ((Below.refl W8.heap.size W8).alloc (Nat.le_refl _) _).drew)) hB60; (try have nz := hZ _ hB60); (try have nz0 := cell_row nz (j := 0) rfl); (try have nz1 := cell_row nz (j := 1) rfl); (try have nz2 := cell_row nz (j := 2) rfl); (try have nzf := fun j => frozen_of_row _ W8.heap.size j _ _ nz)) | (go_at_call 83; refine (CM _ (by first | assumption | exact Below.alloc (by assumption) (Below.size (by assumption)) _ | exact ((Below.refl W8.heap.size W8).alloc (Nat.le_refl _) _).drew)).mono ?_; rintro e w' ⟨rfl, rfl⟩))
                · have h64 : ∀ x ∈ withoutP (markS noS a) N.pre, ∀ y ∈ x.vars, I64 y := HW64.out
                  obtain ⟨WE, hcE, hwE⟩ : ∃ WE, (∃ b, b = w'.heap.size) ∧ w'.alloc (.cells #[.slice Ao (withoutP (markS noS a) N.pre).length co, .slice none 0 0, .int .i64 (meanL M N.out)] 25) = WE := ⟨_, ⟨_, rfl⟩, rfl⟩
                  have hBE : Below w'.heap.size w' WE := by rw [← hwE]; exact (Below.refl _ w').alloc (Nat.le_refl _) _
                  have G1 : Below W8.heap.size W8 WE := below_then hBx hBx.size hBE
                  have G2 : WE.heap[w'.heap.size]? = some (.cells #[.slice Ao (withoutP (markS noS a) N.pre).length co, .slice none 0 0, .int .i64 (meanL M N.out)] 25 (0, 0)) := by rw [← hwE]; exact heap_alloc_new w' _
                  have hlw := hBx.size
                  have G3 : ∀ w2, WE.heap.size ≤ w2.heap.size → (∀ k, W8.heap.size ≤ k → k < WE.heap.size → k ≠ w'.heap.size → w2.heap[k]? = WE.heap[k]?) → BlocksAt w2 (.slice Ao (withoutP (markS noS a) N.pre).length co) (withoutP (markS noS a) N.pre) := fun w2 hs hk =>
                    blocks_of_out (hO.keepB (Nat.le_trans hBE.size hs) (fun k h1 h2 => (hk k h1 (Nat.lt_of_lt_of_le h2 hBE.size) (by omega)).trans (hBE.block k h2))) h64
                  rw [hwE]
                  have G4 : W8.heap.size ≤ w'.heap.size ∧ w'.heap.size < WE.heap.size := ⟨hlw, row_lt G2⟩
                  have PP := And.intro G1 (And.intro G2 (And.intro G3 G4))
                  clear G1 G2 G3 G4 hwE hBE hO hol
                  obtain ⟨b19, hb19⟩ : ∃ b, b = w'.heap.size := ⟨_, rfl⟩
                  rw [← hb19] at PP ⊢
                  clear hb19
                  generalize hv : Value.slice Ao (withoutP (markS noS a) N.pre).length co = vo2 at PP ⊢
                  clear hv
                  revert PP
                  revert vo2
                  revert b19
                  revert WE
                  exact H.out
                · have h64 : ∀ x ∈ withoutP (markS noS a) N.pre, ∀ y ∈ x.vars, I64 y := HW64.out
                  obtain ⟨WE, hcE, hwE⟩ : ∃ WE, (∃ b, b = w'.heap.size) ∧ w'.alloc (.cells #[.slice Ao (withoutP (markS noS a) N.pre).length co, .slice none 0 0, .int .i64 (meanL M N.out)] 25) = WE := ⟨_, ⟨_, rfl⟩, rfl⟩
                  have hBE : Below w'.heap.size w' WE := by rw [← hwE]; exact (Below.refl _ w').alloc (Nat.le_refl _) _
                  have G1 : Below W8.heap.size W8 WE := below_then hBx hBx.size hBE
                  have G2 : WE.heap[w'.heap.size]? = some (.cells #[.slice Ao (withoutP (markS noS a) N.pre).length co, .slice none 0 0, .int .i64 (meanL M N.out)] 25 (0, 0)) := by rw [← hwE]; exact heap_alloc_new w' _
                  have hlw := hBx.size
                  have G3 : ∀ w2, WE.heap.size ≤ w2.heap.size → (∀ k, W8.heap.size ≤ k → k < WE.heap.size → k ≠ w'.heap.size → w2.heap[k]? = WE.heap[k]?) → BlocksAt w2 (.slice Ao (withoutP (markS noS a) N.pre).length co) (withoutP (markS noS a) N.pre) := fun w2 hs hk =>
                    blocks_of_out (hO.keepB (Nat.le_trans hBE.size hs) (fun k h1 h2 => (hk k h1 (Nat.lt_of_lt_of_le h2 hBE.size) (by omega)).trans (hBE.block k h2))) h64
                  rw [hwE]
                  have G4 : W8.heap.size ≤ w'.heap.size ∧ w'.heap.size < WE.heap.size := ⟨hlw, row_lt G2⟩
                  have PP := And.intro G1 (And.intro G2 (And.intro G3 G4))
                  clear G1 G2 G3 G4 hwE hBE hO hol
                  obtain ⟨b19, hb19⟩ : ∃ b, b = w'.heap.size := ⟨_, rfl⟩
                  rw [← hb19] at PP ⊢
                  clear hb19
                  generalize hv : Value.slice Ao (withoutP (markS noS a) N.pre).length co = vo2 at PP ⊢
                  clear hv
                  revert PP
                  revert vo2
                  revert b19
                  revert WE
                  exact H.out
                · have h64 : ∀ x ∈ withoutP (markS noS a) N.pre, ∀ y ∈ x.vars, I64 y := HW64.out
                  obtain ⟨WE, hwE⟩ : ∃ WE, ((w'.setCell ⟨W8.heap.size, 0, none⟩ (.slice Ao (withoutP (markS noS a) N.pre).length co)).setCell ⟨W8.heap.size, 1, none⟩ (.slice none 0 0)).setCell ⟨W8.heap.size, 2, none⟩ (.int .i64 (meanL M N.out)) = WE := ⟨_, rfl⟩
                  have gE : w'.grownBy WE (some W8.heap.size) := by rw [← hwE]; exact ((grown_setCell w' ⟨W8.heap.size, 0, none⟩ _).trans (grown_setCell _ ⟨W8.heap.size, 1, none⟩ _)).trans (grown_setCell _ ⟨W8.heap.size, 2, none⟩ _)
                  have G1 : Below W8.heap.size W8 WE := hBx.grown gE hBx.size (fun r e => by injection e with e; omega)
                  have G2 : WE.heap[W8.heap.size]? = some (.cells #[.slice Ao (withoutP (markS noS a) N.pre).length co, .slice none 0 0, .int .i64 (meanL M N.out)] 25 (0, 0)) := by rw [← hwE]; exact row_set (row_set (row_set nz _) _) _
                  have hb0 : (W8.alloc (.cells #[.slice none 0 0, .slice none 0 0, .int .i64 0] 25)).drew.heap.size = W8.heap.size + 1 := World.size_alloc _ _
                  have hO2 := hO.lower (base' := W8.heap.size + 1) (by rw [← hb0]; exact Nat.le_refl _)
                  have G3 : ∀ w2, WE.heap.size ≤ w2.heap.size → (∀ k, W8.heap.size ≤ k → k < WE.heap.size → k ≠ W8.heap.size → w2.heap[k]? = WE.heap[k]?) → BlocksAt w2 (.slice Ao (withoutP (markS noS a) N.pre).length co) (withoutP (markS noS a) N.pre) := fun w2 hs hk =>
                    blocks_of_out (hO2.keepB (Nat.le_trans gE.size hs) (fun k h1 h2 => (hk k (by omega) (Nat.lt_of_lt_of_le h2 gE.size) (by omega)).trans (gE.block k h2 (by intro e; injection e with e; omega)))) h64
                  rw [hwE]
                  have G4 : W8.heap.size ≤ W8.heap.size ∧ W8.heap.size < WE.heap.size := ⟨Nat.le_refl _, row_lt G2⟩
                  obtain ⟨b19, hb19⟩ : ∃ b, b = W8.heap.size := ⟨_, rfl⟩
                  have PP : Below W8.heap.size W8 WE ∧ WE.heap[b19]? = some (.cells #[.slice Ao (withoutP (markS noS a) N.pre).length co, .slice none 0 0, .int .i64 (meanL M N.out)] 25 (0, 0)) ∧ (∀ w2, WE.heap.size ≤ w2.heap.size → (∀ k, W8.heap.size ≤ k → k < WE.heap.size → k ≠ b19 → w2.heap[k]? = WE.heap[k]?) → BlocksAt w2 (.slice Ao (withoutP (markS noS a) N.pre).length co) (withoutP (markS noS a) N.pre)) ∧ (W8.heap.size ≤ b19 ∧ b19 < WE.heap.size) := by
                    rw [hb19]; exact And.intro G1 (And.intro G2 (And.intro G3 G4))
                  clear G1 G2 G3 G4 hwE gE hO2 hO hol hb0 nz nz0 nz1 nz2 nzf
                  rw [← hb19]
                  clear hb19
                  generalize hv : Value.slice Ao (withoutP (markS noS a) N.pre).length co = vo2 at PP ⊢
                  clear hv
                  revert PP
                  revert vo2
                  revert b19
                  revert WE
                  exact H.out
              case key2 =>
                clear KS KS3 hZ CW CM hBd0
                rintro WE b19 vo ⟨G1, G2, G3, G4, G5⟩
                have hbE := G3 WE (Nat.le_refl _) (fun _ _ _ _ => rfl)
                obtain ⟨Ao, co, rfl, -, -⟩ := hbE.form
                have CV := Vars_any _ (withoutP (markS noS a) N.pre) WE hbE (alt_ne (withoutP_alt _ _)) (by have := HER.out.few; omega)
                obtain ⟨nP, hnP⟩ : ∃ x, (withoutP (markS noS a) N.pre).length = x := ⟨_, rfl⟩
                rw [hnP] at G2 G3 CV ⊢
                have HNP := hid hnP
                clear hnP hbE
                have o2 : WE.cell? ⟨b19, 2, none⟩ = some (.int .i64 (meanL M N.out)) := cell_row G2 rfl
                have o0 : WE.cell? ⟨b19, 0, none⟩ = some (.slice Ao nP co) := cell_row G2 rfl
                obtain ⟨o, ho2⟩ : ∃ o, meanL M N.out = o := ⟨_, rfl⟩
                rw [ho2] at G2 o2 ⊢
                have HO2 := hid ho2
                clear ho2
                have hz87 := hG.size
                have rE := row_below (row_grown Q2 hG (by intro e; injection e with e; omega)) G1
                have hBE : Below n w WE := below_then hBr (by omega) G1
                by_cases hT : o = 1000000 ∨ o = -1000000
                · obtain ⟨kf, hk1, hk2, hk3, hk4⟩ := free_some HER.out.wide
                  rw [HER.out.set] at hk3 hk4
                  have HS : Hid (∀ q, 1 ≤ q → q < kf + 1 → setOf (varsOf (withoutP (markS noS a) N.pre)) q = true) := hid fun q h1 h2 => by
                    have := hk4 (q - 1) (by omega)
                    rw [show 1 + (q - 1) = q by omega] at this
                    exact this
                  have HF : Hid (setOf (varsOf (withoutP (markS noS a) N.pre)) (kf + 1) = false) := hid (by rw [Nat.add_comm]; exact hk3)
                  have HK1 := hid hk1
                  clear hk1 hk3 hk4
                  rcases hT with rfl | rfl
                  · go_wp2_with fail
                    refine CV.mono ?_
                    rintro e WV ⟨vv, rfl, hOv, hBv⟩
                    obtain ⟨Avv, cvv, rfl⟩ := own_shape hOv
                    have CMk := marks_any _ _ WV (ints_of_own hOv (fun y hy => by have := HER.out.small y hy; unfold I64; omega) (by have := HER.out.few; omega)) (fun y hy => by have := HER.out.small y hy; omega)
                    clear hOv CV
                    go_wp2_with fail
                    refine CMk.mono ?_
                    rintro e WM ⟨bs, rfl, hSs, hBm, hbs⟩
                    have B18 := below_then hBv hBv.size hBm
                    have G2m := row_below G2 B18
                    have rM := row_below rE B18
                    have hWm := B18.size
                    have hc := fun (j : Nat) (hj : j < 65537) => hSs.cell j hj
                    have HC := hid hc
                    clear CMk hc
                    go_wp2_with fail
                    go_loopg [19] kf (fun gg s19 wr => ∃ q : Nat, 1 ≤ q ∧ q ≤ kf + 1 ∧ kf + 1 - q ≤ gg ∧ s19 = .int .i64 (q : Int) ∧ wr = WM)
                    case atStart => exact ⟨1, by omega, by omega, by omega, rfl, rfl⟩
                    case round =>
                      obtain ⟨q, hq1, hq2, hq3, rfl, rfl⟩ := hrel
                      have hq4 : (q : Int) < 65537 := by omega
                      by_cases hqk : q < kf + 1
                      · have cq := HC.out q (by omega)
                        rw [HS.out q hq1 hqk] at cq
                        go_wp2_with fail
                        go_roundg (kf + 1 - (q + 1))
                        case measure => omega
                        case rel => exact ⟨q + 1, by omega, by omega, by omega, by go_num, rfl⟩
                      · have hqe : q = kf + 1 := by omega
                        have cq := HC.out q (by omega)
                        rw [hqe, HF.out] at cq
                        rw [← hqe] at cq
                        have HQ := hid (And.intro hqe (And.intro hq1 hq3))
                        have hwn : IntKind.i64.wrap (-(q : Int)) = -(q : Int) := IntWalk.i64_in _ (by omega)
                        clear hqe hqk hq1 hq2 hq3 HS HF
                        obtain ⟨WP, rfl⟩ : ∃ WP, WP = wr := ⟨_, rfl⟩
                        obtain ⟨WQ, hWQ, hcQ, -, hzQ, hBQ, hrowQ⟩ := new_block WP #[.int .i64 (q : Int), .int .u8 1, .slice none 0 0] 70
                        have G2q : WQ.heap[b19]? = _ := row_below G2m hBQ
                        have rQ := row_below rM hBQ
                        have q1 := frozen_of_row _ b19 1 _ _ G2q
                        have q1c := cell_row G2q (j := 1) (v := .slice none 0 0) rfl
                        have G2r : (WQ.setCell ⟨b19, 1, none⟩ (.slice (some ⟨WP.heap.size, 0, none⟩) 1 1)).heap[b19]? = some (.cells #[.slice Ao nP co, .slice (some ⟨WP.heap.size, 0, none⟩) 1 1, .int .i64 1000000] 25 (0, 0)) := row_set G2q _
                        have c2r := cell_row G2r (j := 2) (v := .int .i64 1000000) rfl
                        have r2 := frozen_of_row _ b19 2 _ _ G2r
                        have G2s : ((WQ.setCell ⟨b19, 1, none⟩ (.slice (some ⟨WP.heap.size, 0, none⟩) 1 1)).setCell ⟨b19, 2, none⟩ (.int .i64 (q : Int))).heap[b19]? = some (.cells #[.slice Ao nP co, .slice (some ⟨WP.heap.size, 0, none⟩) 1 1, .int .i64 (q : Int)] 25 (0, 0)) := row_set G2r _
                        have hGs : WQ.grownBy ((WQ.setCell ⟨b19, 1, none⟩ (.slice (some ⟨WP.heap.size, 0, none⟩) 1 1)).setCell ⟨b19, 2, none⟩ (.int .i64 (q : Int))) (some b19) := (grown_setCell WQ ⟨b19, 1, none⟩ _).trans (grown_setCell _ ⟨b19, 2, none⟩ _)
                        have rS := row_grown rQ hGs (by intro e; injection e with e; omega)
                        have s0 := cell_row G2s (j := 0) (v := (.slice Ao nP co)) rfl
                        have s1 := cell_row G2s (j := 1) (v := .slice (some ⟨WP.heap.size, 0, none⟩) 1 1) rfl
                        have s2 := cell_row G2s (j := 2) (v := .int .i64 (q : Int)) rfl
                        have rS1 := row_set rS (i := 0) (.slice Ao nP co)
                        have rS2 := row_set rS1 (i := 1) (.slice (some ⟨WP.heap.size, 0, none⟩) 1 1)
                        have rS3 := row_set rS2 (i := 2) (.int .i64 (q : Int))
                        have sf0 := frozen_of_row _ (n + 1) 0 _ _ rS
                        have sf1 := frozen_of_row _ (n + 1) 1 _ _ rS1
                        have sf2 := frozen_of_row _ (n + 1) 2 _ _ rS2
                        have sc0 := cell_row rS (j := 0) (v := .slice none 0 0) rfl
                        have sc1 := cell_row rS1 (j := 1) (v := .slice none 0 0) rfl
                        have sc2 := cell_row rS2 (j := 2) (v := .int .i64 0) rfl
                        clear G2m G2q hcQ
                        go_wp2_with fail
                        have hg4 : ((WQ.setCell ⟨b19, 1, none⟩ (.slice (some ⟨WP.heap.size, 0, none⟩) 1 1)).setCell ⟨b19, 2, none⟩ (.int .i64 (q : Int))).grownBy (((((WQ.setCell ⟨b19, 1, none⟩ (.slice (some ⟨WP.heap.size, 0, none⟩) 1 1)).setCell ⟨b19, 2, none⟩ (.int .i64 (q : Int))).setCell ⟨n + 1, 0, none⟩ (.slice Ao nP co)).setCell ⟨n + 1, 1, none⟩ (.slice (some ⟨WP.heap.size, 0, none⟩) 1 1)).setCell ⟨n + 1, 2, none⟩ (.int .i64 (q : Int))) (some (n + 1)) :=
                          ((grown_setCell _ ⟨n + 1, 0, none⟩ _).trans (grown_setCell _ ⟨n + 1, 1, none⟩ _)).trans (grown_setCell _ ⟨n + 1, 2, none⟩ _)
                        clear sf0 sf1 sf2 sc0 sc1 sc2 rS1 rS2 s0 s1 s2 c2r r2 q1 q1c
                        revert rS3 hg4
                        generalize (((((WQ.setCell ⟨b19, 1, none⟩ (.slice (some ⟨WP.heap.size, 0, none⟩) 1 1)).setCell ⟨b19, 2, none⟩ (.int .i64 (q : Int))).setCell ⟨n + 1, 0, none⟩ (.slice Ao nP co)).setCell ⟨n + 1, 1, none⟩ (.slice (some ⟨WP.heap.size, 0, none⟩) 1 1)).setCell ⟨n + 1, 2, none⟩ (.int .i64 (q : Int))) = WT
                        intro rS3 hg4
                        revert hGs hg4
                        generalize ((WQ.setCell ⟨b19, 1, none⟩ (.slice (some ⟨WP.heap.size, 0, none⟩) 1 1)).setCell ⟨b19, 2, none⟩ (.int .i64 (q : Int))) = WS at *
                        intro hGs hg4
                        have z2 := hGs.size
                        have z3 := hg4.size
                        have z4 := hBE.size
                        have kb : ∀ k, k < WE.heap.size → k ≠ b19 → k ≠ n + 1 → WT.heap[k]? = WE.heap[k]? := fun k h1 h3 h4 => by
                          refine (hg4.block k (by omega) (by intro e; injection e with e; exact h4 e)).trans ((hGs.block k (by omega) (by intro e; injection e with e; exact h3 e)).trans ((hBQ.block k (by omega)).trans (B18.block k h1)))
                        have gT : WT.heap[WP.heap.size]? = some (.cells #[.int .i64 (q : Int), .int .u8 1, .slice none 0 0] 70 (0, 0)) :=
                          (hg4.block _ (by omega) (by intro e; injection e with e; omega)).trans ((hGs.block _ (by omega) (by intro e; injection e with e; omega)).trans hrowQ)
                        have hBT : Below n w WT := ((below_then (below_then hBE (by omega) B18) (by omega) hBQ).grown hGs (by omega) (fun r e => by injection e with e; omega)).grown hg4 (by omega) (fun r e => by injection e with e; omega)
                        refine bodyPost_ret (results_cell_row (p := 4) (ty := 25) rfl _ _ (n + 1) 25 _ (0, 0) _ rfl rS3 Try.underlying25 rfl (by kernel_rfl)) rfl ⟨HN.out ▸ hBT, _, rfl, ?_⟩
                        intro wF hsF hkF
                        have hkF' : ∀ k, n ≤ k → k < WT.heap.size → wF.heap[k]? = WT.heap[k]? := fun k h1 h2 => hkF k (HN.out ▸ h1) h2
                        have bT := G3 wF (by omega) (fun k h1 h2 h3 => (hkF' k (by omega) (by omega)).trans (kb k h2 h3 (by omega)))
                        have eN : simpleP 65537 N a = ⟨withoutP (markS noS a) N.pre, [⟨(q : Int), 1, []⟩], (q : Int)⟩ := by
                          have eq : 1 + (kf : Int) = (q : Int) := by have := HQ.out.1; omega
                          rw [HER.out.eq, HO2.out]; unfold endP; rw [if_pos (.inl rfl), if_neg (by decide), HK1.out, eq]
                        rw [eN]
                        refine ⟨.slice Ao nP co, .slice (some ⟨WP.heap.size, 0, none⟩) 1 1, rfl, ?_, bT, gate_one ((hkF' _ (by omega) (by omega)).trans gT) ?_⟩
                        · show I64 (q : Int); unfold I64; omega
                        · unfold I64; omega
                  · go_wp2_with fail
                    refine CV.mono ?_
                    rintro e WV ⟨vv, rfl, hOv, hBv⟩
                    obtain ⟨Avv, cvv, rfl⟩ := own_shape hOv
                    have CMk := marks_any _ _ WV (ints_of_own hOv (fun y hy => by have := HER.out.small y hy; unfold I64; omega) (by have := HER.out.few; omega)) (fun y hy => by have := HER.out.small y hy; omega)
                    clear hOv CV
                    go_wp2_with fail
                    refine CMk.mono ?_
                    rintro e WM ⟨bs, rfl, hSs, hBm, hbs⟩
                    have B18 := below_then hBv hBv.size hBm
                    have G2m := row_below G2 B18
                    have rM := row_below rE B18
                    have hWm := B18.size
                    have hc := fun (j : Nat) (hj : j < 65537) => hSs.cell j hj
                    have HC := hid hc
                    clear CMk hc
                    go_wp2_with fail
                    go_loopg [19] kf (fun gg s19 wr => ∃ q : Nat, 1 ≤ q ∧ q ≤ kf + 1 ∧ kf + 1 - q ≤ gg ∧ s19 = .int .i64 (q : Int) ∧ wr = WM)
                    case atStart => exact ⟨1, by omega, by omega, by omega, rfl, rfl⟩
                    case round =>
                      obtain ⟨q, hq1, hq2, hq3, rfl, rfl⟩ := hrel
                      have hq4 : (q : Int) < 65537 := by omega
                      by_cases hqk : q < kf + 1
                      · have cq := HC.out q (by omega)
                        rw [HS.out q hq1 hqk] at cq
                        go_wp2_with fail
                        go_roundg (kf + 1 - (q + 1))
                        case measure => omega
                        case rel => exact ⟨q + 1, by omega, by omega, by omega, by go_num, rfl⟩
                      · have hqe : q = kf + 1 := by omega
                        have cq := HC.out q (by omega)
                        rw [hqe, HF.out] at cq
                        rw [← hqe] at cq
                        have HQ := hid (And.intro hqe (And.intro hq1 hq3))
                        have hwn : IntKind.i64.wrap (-(q : Int)) = -(q : Int) := IntWalk.i64_in _ (by omega)
                        clear hqe hqk hq1 hq2 hq3 HS HF
                        obtain ⟨WP, rfl⟩ : ∃ WP, WP = wr := ⟨_, rfl⟩
                        obtain ⟨WQ, hWQ, hcQ, -, hzQ, hBQ, hrowQ⟩ := new_block WP #[.int .i64 (q : Int), .int .u8 1, .slice none 0 0] 70
                        have G2q : WQ.heap[b19]? = _ := row_below G2m hBQ
                        have rQ := row_below rM hBQ
                        have q1 := frozen_of_row _ b19 1 _ _ G2q
                        have q1c := cell_row G2q (j := 1) (v := .slice none 0 0) rfl
                        have G2r : (WQ.setCell ⟨b19, 1, none⟩ (.slice (some ⟨WP.heap.size, 0, none⟩) 1 1)).heap[b19]? = some (.cells #[.slice Ao nP co, .slice (some ⟨WP.heap.size, 0, none⟩) 1 1, .int .i64 (-1000000)] 25 (0, 0)) := row_set G2q _
                        have c2r := cell_row G2r (j := 2) (v := .int .i64 (-1000000)) rfl
                        have r2 := frozen_of_row _ b19 2 _ _ G2r
                        have G2s : ((WQ.setCell ⟨b19, 1, none⟩ (.slice (some ⟨WP.heap.size, 0, none⟩) 1 1)).setCell ⟨b19, 2, none⟩ (.int .i64 (-(q : Int)))).heap[b19]? = some (.cells #[.slice Ao nP co, .slice (some ⟨WP.heap.size, 0, none⟩) 1 1, .int .i64 (-(q : Int))] 25 (0, 0)) := row_set G2r _
                        have hGs : WQ.grownBy ((WQ.setCell ⟨b19, 1, none⟩ (.slice (some ⟨WP.heap.size, 0, none⟩) 1 1)).setCell ⟨b19, 2, none⟩ (.int .i64 (-(q : Int)))) (some b19) := (grown_setCell WQ ⟨b19, 1, none⟩ _).trans (grown_setCell _ ⟨b19, 2, none⟩ _)
                        have rS := row_grown rQ hGs (by intro e; injection e with e; omega)
                        have s0 := cell_row G2s (j := 0) (v := (.slice Ao nP co)) rfl
                        have s1 := cell_row G2s (j := 1) (v := .slice (some ⟨WP.heap.size, 0, none⟩) 1 1) rfl
                        have s2 := cell_row G2s (j := 2) (v := .int .i64 (-(q : Int))) rfl
                        have rS1 := row_set rS (i := 0) (.slice Ao nP co)
                        have rS2 := row_set rS1 (i := 1) (.slice (some ⟨WP.heap.size, 0, none⟩) 1 1)
                        have rS3 := row_set rS2 (i := 2) (.int .i64 (-(q : Int)))
                        have sf0 := frozen_of_row _ (n + 1) 0 _ _ rS
                        have sf1 := frozen_of_row _ (n + 1) 1 _ _ rS1
                        have sf2 := frozen_of_row _ (n + 1) 2 _ _ rS2
                        have sc0 := cell_row rS (j := 0) (v := .slice none 0 0) rfl
                        have sc1 := cell_row rS1 (j := 1) (v := .slice none 0 0) rfl
                        have sc2 := cell_row rS2 (j := 2) (v := .int .i64 0) rfl
                        clear G2m G2q hcQ
                        go_wp2_with fail
                        have hg4 : ((WQ.setCell ⟨b19, 1, none⟩ (.slice (some ⟨WP.heap.size, 0, none⟩) 1 1)).setCell ⟨b19, 2, none⟩ (.int .i64 (-(q : Int)))).grownBy (((((WQ.setCell ⟨b19, 1, none⟩ (.slice (some ⟨WP.heap.size, 0, none⟩) 1 1)).setCell ⟨b19, 2, none⟩ (.int .i64 (-(q : Int)))).setCell ⟨n + 1, 0, none⟩ (.slice Ao nP co)).setCell ⟨n + 1, 1, none⟩ (.slice (some ⟨WP.heap.size, 0, none⟩) 1 1)).setCell ⟨n + 1, 2, none⟩ (.int .i64 (-(q : Int)))) (some (n + 1)) :=
                          ((grown_setCell _ ⟨n + 1, 0, none⟩ _).trans (grown_setCell _ ⟨n + 1, 1, none⟩ _)).trans (grown_setCell _ ⟨n + 1, 2, none⟩ _)
                        clear sf0 sf1 sf2 sc0 sc1 sc2 rS1 rS2 s0 s1 s2 c2r r2 q1 q1c
                        revert rS3 hg4
                        generalize (((((WQ.setCell ⟨b19, 1, none⟩ (.slice (some ⟨WP.heap.size, 0, none⟩) 1 1)).setCell ⟨b19, 2, none⟩ (.int .i64 (-(q : Int)))).setCell ⟨n + 1, 0, none⟩ (.slice Ao nP co)).setCell ⟨n + 1, 1, none⟩ (.slice (some ⟨WP.heap.size, 0, none⟩) 1 1)).setCell ⟨n + 1, 2, none⟩ (.int .i64 (-(q : Int)))) = WT
                        intro rS3 hg4
                        revert hGs hg4
                        generalize ((WQ.setCell ⟨b19, 1, none⟩ (.slice (some ⟨WP.heap.size, 0, none⟩) 1 1)).setCell ⟨b19, 2, none⟩ (.int .i64 (-(q : Int)))) = WS at *
                        intro hGs hg4
                        have z2 := hGs.size
                        have z3 := hg4.size
                        have z4 := hBE.size
                        have kb : ∀ k, k < WE.heap.size → k ≠ b19 → k ≠ n + 1 → WT.heap[k]? = WE.heap[k]? := fun k h1 h3 h4 => by
                          refine (hg4.block k (by omega) (by intro e; injection e with e; exact h4 e)).trans ((hGs.block k (by omega) (by intro e; injection e with e; exact h3 e)).trans ((hBQ.block k (by omega)).trans (B18.block k h1)))
                        have gT : WT.heap[WP.heap.size]? = some (.cells #[.int .i64 (q : Int), .int .u8 1, .slice none 0 0] 70 (0, 0)) :=
                          (hg4.block _ (by omega) (by intro e; injection e with e; omega)).trans ((hGs.block _ (by omega) (by intro e; injection e with e; omega)).trans hrowQ)
                        have hBT : Below n w WT := ((below_then (below_then hBE (by omega) B18) (by omega) hBQ).grown hGs (by omega) (fun r e => by injection e with e; omega)).grown hg4 (by omega) (fun r e => by injection e with e; omega)
                        refine bodyPost_ret (results_cell_row (p := 4) (ty := 25) rfl _ _ (n + 1) 25 _ (0, 0) _ rfl rS3 Try.underlying25 rfl (by kernel_rfl)) rfl ⟨HN.out ▸ hBT, _, rfl, ?_⟩
                        intro wF hsF hkF
                        have hkF' : ∀ k, n ≤ k → k < WT.heap.size → wF.heap[k]? = WT.heap[k]? := fun k h1 h2 => hkF k (HN.out ▸ h1) h2
                        have bT := G3 wF (by omega) (fun k h1 h2 h3 => (hkF' k (by omega) (by omega)).trans (kb k h2 h3 (by omega)))
                        have eN : simpleP 65537 N a = ⟨withoutP (markS noS a) N.pre, [⟨(q : Int), 1, []⟩], (-(q : Int))⟩ := by
                          have eq : 1 + (kf : Int) = (q : Int) := by have := HQ.out.1; omega
                          rw [HER.out.eq, HO2.out]; unfold endP; rw [if_pos (.inr rfl), if_pos rfl, HK1.out, eq]
                        rw [eN]
                        refine ⟨.slice Ao nP co, .slice (some ⟨WP.heap.size, 0, none⟩) 1 1, rfl, ?_, bT, gate_one ((hkF' _ (by omega) (by omega)).trans gT) ?_⟩
                        · show I64 (-(q : Int)); unfold I64; omega
                        · unfold I64; omega
                · obtain ⟨hT1, hT2⟩ := not_or.1 hT
                  have hz1 : (o == 1000000) = false := by rw [beq_eq_false_iff_ne]; exact hT1
                  have hz2 : (o == -1000000) = false := by rw [beq_eq_false_iff_ne]; exact hT2
                  have hlit := HER.out.lit (by rw [HO2.out]; exact hT1) (by rw [HO2.out]; exact hT2)
                  have hfil := HER.out.filt (by rw [HO2.out]; exact hT1) (by rw [HO2.out]; exact hT2)
                  have hob := HER.out.val
                  rw [HO2.out] at hlit hfil hob
                  have hSE := HSt.out.below G1
                  have CR := reachedR_any _ stay o WE (gates_of_stay hSE) (by unfold I64; omega) hlit HER.out.vars HER.out.ins
                  obtain ⟨T, hTe⟩ : ∃ T, reachT (upd noS (absN o) true) stay.reverse = T := ⟨_, rfl⟩
                  rw [hTe] at CR hfil
                  have HFIL := hid hfil
                  clear hT hT1 hT2 hlit hfil hob hSE hTe CV
                  go_wp2_with fail
                  refine CR.mono ?_
                  rintro e WR ⟨br, rfl, hSr, hBR, hbr⟩
                  have G2R := row_below G2 hBR
                  have rR := row_below rE hBR
                  have hBRL : Below W8.heap.size W8 WR := below_then G1 G1.size hBR
                  have hBnR : Below n w WR := below_then hBE (by omega) hBR
                  have hER := hBR.size
                  have hbrl := hSr.lt
                  obtain ⟨W0, hW0⟩ : ∃ W0, keepOnly (fun k => decide (W7.heap.size ≤ k) && decide (k < W8.heap.size)) WR = W0 := ⟨_, rfl⟩
                  have s0 : W0.heap.size = WR.heap.size := by rw [← hW0]; exact keepOnly_size _ _
                  have hSW : StayAt W0 W7.heap.size (.slice As stay.length cs) stay := HSt.out.keep (by omega) (fun k h1 h2 => by
                    rw [← hW0, keepOnly_same (by simp; omega)]
                    exact hBRL.block k h2)
                  have hKF : ∀ w', (∀ k, W7.heap.size ≤ k → k < W8.heap.size → w'.heap[k]? = WR.heap[k]?) → Keeps W0 w' := fun w' hk => by
                    rw [← hW0]
                    exact keeps_only (fun k h1 _ => by simp only [Bool.and_eq_true, decide_eq_true_eq] at h1; exact hk k h1.1 h1.2)
                  have hK0 : ∀ w', KeepX WR.heap.size (fun k => k = b19) 0 WR w' → Keeps W0 w' := fun w' hk => hKF w' (fun k h1 h2 => hk.block k (by omega) (fun h => by
                    rcases h with h | ⟨h, _⟩
                    · omega
                    · omega))
                  have hGA := gates_of_stay hSW
                  have HKF := hid hKF
                  have HK0 := hid hK0
                  have hP0 : ∀ a v, W0.cell? a = some v → W7.heap.size ≤ a.block ∧ a.block < W8.heap.size := fun a v h0 => by
                    rw [← hW0] at h0
                    have := only_block h0
                    simpa using this
                  have HP0 := hid hP0
                  clear hW0 hKF hK0 CR hSW hP0
                  go_wp2_with fail
                  go_loopg [21] stay.length (fun gg s21 wr => ∃ (i : Nat) (out : List PGate) (A : Option Addr) (c : Nat), i ≤ stay.length ∧ stay.length - i ≤ gg ∧ s21 = .int .i64 (i : Int) ∧ wr.heap[b19]? = some (.cells #[.slice Ao nP co, .slice A out.length c, .int .i64 o] 25 (0, 0)) ∧
                    RowG W0 wr WR.heap.size (.slice A out.length c) out ∧ KeepX WR.heap.size (fun k => k = b19) 0 WR wr ∧ out.length ≤ i ∧ Aside (out = (stay.take i).filter fun x => T x.var.toNat))
                  case atStart => exact ⟨0, [], none, 0, Nat.zero_le _, by omega, rfl, G2R, ⟨[], rfl, World.ownsRow_nil _ _ _ _, fun e he => by cases he⟩, KeepX.refl _ _ _ _, Nat.le_refl _, rfl⟩
                  case round =>
                    obtain ⟨i, out, A, c, hi1, hi2, rfl, hrow2, hRG, hKX, hol, hout⟩ := hrel
                    have hKW := HK0.out _ hKX
                    have hSr2 : SetAt wr br 4 T := hSr.heap (hKX.block br hbrl (fun h => by
                      rcases h with h | ⟨h, _⟩
                      · omega
                      · omega))
                    obtain ⟨V2, rfl⟩ : ∃ V2, V2 = wr := ⟨_, rfl⟩
                    by_cases hlti : i < stay.length
                    · obtain ⟨g, hgx, hgm, -⟩ := nth hlti
                      obtain ⟨bg, og, vi, eA, hc0, hc1, hc2, hii, hg64, hkd0, hkd1⟩ := hGA.at_ i g hgx
                      obtain ⟨Ai, ci, rfl, hli, hci⟩ := hii.form
                      have hbg1 : bg < W0.heap.size := World.block_lt_of_cell? _ _ hc0
                      have hbg2 : W7.heap.size ≤ bg ∧ bg < W8.heap.size := HP0.out _ _ hc0
                      obtain ⟨m, hm⟩ : ∃ m : Nat, g.var = m := Int.eq_ofNat_of_zero_le (by have := HER.out.vars g hgm; omega)
                      have hm1 : m < 65537 := by have := HER.out.vars g hgm; omega
                      have hm2 : (m : Int) < 65537 := by omega
                      rw [hm] at hc0
                      have k0 := hKW _ _ hc0
                      have k1 := hKW _ _ hc1
                      have k2 := hKW _ _ hc2
                      have cT := hSr2.cell m hm1
                      have htk : (stay.take (i + 1)).filter (fun x => T x.var.toNat) = (stay.take i).filter (fun x => T x.var.toNat) ++ (if T m = true then [g] else []) := by
                        rw [take_snoc hgx, List.filter_append, List.filter_cons, hm, Int.toNat_natCast]
                        split <;> rfl
                      have hlti2 : (i : Int) < (stay.length : Int) := by omega
                      have HTK := hid htk
                      have HOUT := hid hout
                      have HG64 := hid (And.intro hg64 (And.intro hkd0 hkd1))
                      have HIW := hid hii
                      subst eA
                      clear htk hout hgx hgm hg64 hkd0 hkd1 hii hc0 hc1 hc2 hSr2 hSr
                      cases hTm : T m with
                      | false =>
                        rw [hTm] at cT
                        have HTT := hid hTm
                        clear hTm
                        go_wp2_with fail
                        go_roundg (stay.length - (i + 1))
                        case measure => omega
                        case rel => exact ⟨i + 1, out, A, c, by omega, by omega, by go_num, hrow2, hRG, hKX, by omega, by show out = _; rw [HTK.out, HTT.out]; simp; exact HOUT.out⟩
                      | true =>
                        rw [hTm] at cT
                        have HTT := hid hTm
                        clear hTm
                        obtain ⟨eo, heo, hOo, heg⟩ := hRG
                        have xb := cell_row hrow2 (j := 1) (v := .slice A out.length c) rfl
                        have xbA : (V2.alloc (.cells #[.int .i64 (m : Int), .int .u8 g.kind, .slice Ai g.ins.length ci] 70)).cell? ⟨b19, 1, none⟩ = some (.slice A out.length c) := keeps_below ((Below.refl _ V2).alloc (Nat.le_refl _) _) _ _ xb
                        have hbs2 : WR.heap.size ≤ V2.heap.size := hKX.size
                        have hb40 : (out.length + 1) * 40 ≤ 140737488355328 := by omega
                        have hne19 : bg ≠ b19 := by omega
                        have hbgR : bg < WR.heap.size := by omega
                        have HSW : Hid (∀ W, Below V2.heap.size V2 W → W.cell? ⟨bg, og + i * 3, none⟩ = some (.int .i64 (m : Int)) ∧ W.cell? ⟨bg, og + i * 3 + 1, none⟩ = some (.int .u8 g.kind) ∧ W.cell? ⟨bg, og + i * 3 + 2, none⟩ = some (.slice Ai g.ins.length ci)) := hid fun W hW => ⟨keeps_below hW _ _ k0, keeps_below hW _ _ k1, keeps_below hW _ _ k2⟩
                        have HSW4 : Hid (∀ W, V2.grownBy W (Value.slice A out.length c).ownBlock → W.cell? ⟨bg, og + i * 3, none⟩ = some (.int .i64 (m : Int)) ∧ W.cell? ⟨bg, og + i * 3 + 1, none⟩ = some (.int .u8 g.kind) ∧ W.cell? ⟨bg, og + i * 3 + 2, none⟩ = some (.slice Ai g.ins.length ci)) := hid fun W hW =>
                          ⟨hW.cell k0 (fun e => by have := (hOo.lt bg e.symm).1; omega), hW.cell k1 (fun e => by have := (hOo.lt bg e.symm).1; omega), hW.cell k2 (fun e => by have := (hOo.lt bg e.symm).1; omega)⟩
                        have HSW5 : Hid (∀ {W : World} W', W.grownBy W' (some b19) → (W.cell? ⟨bg, og + i * 3, none⟩ = some (.int .i64 (m : Int)) ∧ W.cell? ⟨bg, og + i * 3 + 1, none⟩ = some (.int .u8 g.kind) ∧ W.cell? ⟨bg, og + i * 3 + 2, none⟩ = some (.slice Ai g.ins.length ci)) →
                          (W'.cell? ⟨bg, og + i * 3, none⟩ = some (.int .i64 (m : Int)) ∧ W'.cell? ⟨bg, og + i * 3 + 1, none⟩ = some (.int .u8 g.kind) ∧ W'.cell? ⟨bg, og + i * 3 + 2, none⟩ = some (.slice Ai g.ins.length ci))) := hid fun W' hW ⟨h1, h2, h3⟩ =>
                          ⟨hW.cell h1 (fun e => by injection e with e; exact hne19 e), hW.cell h2 (fun e => by injection e with e; exact hne19 e), hW.cell h3 (fun e => by injection e with e; exact hne19 e)⟩
                        go_wp2_with fail
                        refine wp_region_held_drew (S := fun w' => w'.cell? ⟨bg, og + i * 3, none⟩ = some (.int .i64 (m : Int)) ∧ w'.cell? ⟨bg, og + i * 3 + 1, none⟩ = some (.int .u8 g.kind) ∧ w'.cell? ⟨bg, og + i * 3 + 2, none⟩ = some (.slice Ai g.ins.length ci)) (by kernel_rfl) (HSW.out _ ((Below.refl _ V2).drew)) (fun hHeld => ?_)
                        refine wpAnyH_take (i := 0) (v := ?v0) rfl (by kernel_rfl) (by kernel_rfl) (by kernel_rfl) (fun _ _ _ h => h) (Or.inl ⟨by rfl, ?y0⟩) hHeld ?_
                        case y0 => (intro w hSw; (try dsimp only at hSw); go_simp); with_reducible rfl
                        try simp only [Act.put, List.setIfInBounds_toArray, List.set_cons_zero, List.set_cons_succ]
                        refine wpAnyH_take (i := 2) (v := ?v2) rfl (by kernel_rfl) (by kernel_rfl) (by kernel_rfl) (fun _ _ _ h => h) (Or.inl ⟨by rfl, ?y2⟩) hHeld ?_
                        case y2 => (intro w hSw; (try dsimp only at hSw); go_simp); with_reducible rfl
                        try simp only [Act.put, List.setIfInBounds_toArray, List.set_cons_zero, List.set_cons_succ]
                        refine wpAnyH_take (i := 3) (v := ?v3) rfl (by kernel_rfl) (by kernel_rfl) (by kernel_rfl) (fun _ _ _ h => h) (Or.inl ⟨by rfl, ?y3⟩) hHeld ?_
                        case y3 => (intro w hSw; (try dsimp only at hSw); go_simp); with_reducible rfl
                        try simp only [Act.put, List.setIfInBounds_toArray, List.set_cons_zero, List.set_cons_succ]
                        refine wpAnyH_take (i := 4) (v := ?v4) rfl (by kernel_rfl) (by kernel_rfl) (by kernel_rfl) (fun _ _ _ h => h) (Or.inl ⟨by rfl, ?y4⟩) hHeld ?_
                        case y4 => (intro w hSw; (try dsimp only at hSw); go_simp); with_reducible rfl
                        try simp only [Act.put, List.setIfInBounds_toArray, List.set_cons_zero, List.set_cons_succ]
                        refine wpAnyH_take (i := 5) (v := ?v5) rfl (by kernel_rfl) (by kernel_rfl) (by kernel_rfl) (fun _ _ _ h => h) (Or.inl ⟨by rfl, ?y5⟩) hHeld ?_
                        case y5 => (intro w hSw; (try dsimp only at hSw); go_simp); with_reducible rfl
                        try simp only [Act.put, List.setIfInBounds_toArray, List.set_cons_zero, List.set_cons_succ]
                        refine wpAnyH_ready (rs := [1, 6]) (by kernel_rfl) (by simp) ?_
                        refine AllReadyH.cons rfl (fun K hK => ?_) (AllReadyH.cons rfl (fun K hK => ?_) AllReadyH.nil)
                        · go_simp
                          refine hK.out _ _ hHeld (fun hHeld => ?_)
                          clear hK K
                          try simp only [Act.put, List.setIfInBounds_toArray, List.set_cons_zero, List.set_cons_succ]
                          refine wpAnyH_ready (rs := [6]) (by kernel_rfl) (by simp) ?_
                          refine AllReadyH.cons rfl (fun K hK => ?_) AllReadyH.nil
                          go_simp
                          refine hK.out _ _ (HSW.out _ (((Below.refl _ V2).alloc (Nat.le_refl _) _).drew)) (fun hHeld => ?_)
                          clear hK K
                          try simp only [Act.put, List.setIfInBounds_toArray, List.set_cons_zero, List.set_cons_succ]
                          refine wpAnyH_ready (rs := [7]) (by kernel_rfl) (by simp) ?_
                          refine AllReadyH.cons rfl (fun K hK => ?_) AllReadyH.nil
                          refine step_append_one (W := V2) WR.heap.size (by rfl) _ _ 23 70 (.agg #[.int .i64 0, .int .u8 0, .slice none 0 0]) 3 40 (by rfl) Try.underlying23 info70 rfl (by decide) (by decide) (.slice A out.length c) out.length (gcells (eo.map (·.1))) #[.int .i64 (m : Int), .int .u8 g.kind, .slice Ai g.ins.length ci] (by rfl) (by rfl) rfl (by intro u hu; simp at hu; rcases hu with rfl | rfl | rfl <;> rfl) hOo hbs2 hb40 ?_
                          intro g2 cap2 w4 hO4 hG4 hg4 hbg hlt4
                          have hown : ∀ b, (Value.slice A out.length c).ownBlock = some b → WR.heap.size ≤ b := fun b hb => (hOo.lt b hb).1
                          have SK4 := HSW4.out w4 hG4
                          have R4 := row_grown hrow2 hG4 (fun e => by have := hown b19 e; omega)
                          have x4 := cell_row R4 (j := 1) (v := .slice A out.length c) rfl
                          have f4 := frozen_of_row _ b19 1 _ _ R4
                          refine hK.out _ _ SK4 (fun hHeld => ?_)
                          clear hK K
                          try simp only [Act.put, List.setIfInBounds_toArray, List.set_cons_zero, List.set_cons_succ]
                          refine wpAnyH_take (i := 8) (v := ?v8a) rfl (by kernel_rfl) (by kernel_rfl) (by kernel_rfl) (fun _ _ _ h => h) (Or.inl ⟨by rfl, ?y8a⟩) hHeld ?_
                          case y8a => (intro w hSw; (try dsimp only at hSw); go_simp); with_reducible rfl
                          try simp only [Act.put, List.setIfInBounds_toArray, List.set_cons_zero, List.set_cons_succ]
                          refine wpAnyH_ready (rs := [9]) (by kernel_rfl) (by simp) ?_
                          refine AllReadyH.cons rfl (fun K hK => ?_) AllReadyH.nil
                          go_simp
                          refine hK.out _ _ (HSW5.out _ (grown_setCell w4 ⟨b19, 1, none⟩ _) SK4) (fun hHeld => ?_)
                          clear hK K
                          try simp only [Act.put, List.setIfInBounds_toArray, List.set_cons_zero, List.set_cons_succ]
                          refine wpAnyH_done (by kernel_rfl) ?_ _
                          go_wp2_with fail
                          go_roundg (stay.length - (i + 1))
                          case measure => omega
                          case rel =>
                            refine ⟨i + 1, out ++ [g], some ⟨g2, 0, none⟩, cap2, by omega, by omega, by go_num, by rw [List.length_append]; exact row_set R4 _, ?_, ?_, by simp; omega, ?_⟩
                            · refine ⟨eo ++ [((g.var, g.kind, Ai, g.ins.length, ci), g)], by simp [heo], ?_, fun x hx => ?_⟩
                              · have h5 := hO4.kept (grown_setCell w4 ⟨b19, 1, none⟩ (.slice (some ⟨g2, 0, none⟩) (out.length + 1) cap2)) (.inr (fun e => by injection e with e; have e' : g2 = b19 := e; omega))
                                rw [List.length_append, List.map_append, show (List.map (·.1) [((g.var, g.kind, Ai, g.ins.length, ci), g)]) = [(g.var, g.kind, Ai, g.ins.length, ci)] from rfl, gcells_snoc, hm]
                                exact h5
                              · rw [List.mem_append, List.mem_singleton] at hx
                                rcases hx with hx | rfl
                                · exact heg x hx
                                · exact ⟨rfl, rfl, HG64.out, HIW.out⟩
                            · exact (hKX.grown hG4 (fun r e => .inr (hown r e))).grown (grown_setCell w4 ⟨b19, 1, none⟩ _) (fun r e => .inl (.inl (by injection e with e; exact e.symm)))
                            · show out ++ [g] = _
                              rw [HTK.out, HTT.out]; simp; exact HOUT.out
                        · go_simp
                          refine hK.out _ _ (HSW.out _ (((Below.refl _ V2).alloc (Nat.le_refl _) _).drew)) (fun hHeld => ?_)
                          clear hK K
                          try simp only [Act.put, List.setIfInBounds_toArray, List.set_cons_zero, List.set_cons_succ]
                          refine wpAnyH_ready (rs := [1]) (by kernel_rfl) (by simp) ?_
                          refine AllReadyH.cons rfl (fun K hK => ?_) AllReadyH.nil
                          go_simp
                          refine hK.out _ _ hHeld (fun hHeld => ?_)
                          clear hK K
                          try simp only [Act.put, List.setIfInBounds_toArray, List.set_cons_zero, List.set_cons_succ]
                          refine wpAnyH_ready (rs := [7]) (by kernel_rfl) (by simp) ?_
                          refine AllReadyH.cons rfl (fun K hK => ?_) AllReadyH.nil
                          refine step_append_one (W := V2) WR.heap.size (by rfl) _ _ 23 70 (.agg #[.int .i64 0, .int .u8 0, .slice none 0 0]) 3 40 (by rfl) Try.underlying23 info70 rfl (by decide) (by decide) (.slice A out.length c) out.length (gcells (eo.map (·.1))) #[.int .i64 (m : Int), .int .u8 g.kind, .slice Ai g.ins.length ci] (by rfl) (by rfl) rfl (by intro u hu; simp at hu; rcases hu with rfl | rfl | rfl <;> rfl) hOo hbs2 hb40 ?_
                          intro g2 cap2 w4 hO4 hG4 hg4 hbg hlt4
                          have hown : ∀ b, (Value.slice A out.length c).ownBlock = some b → WR.heap.size ≤ b := fun b hb => (hOo.lt b hb).1
                          have SK4 := HSW4.out w4 hG4
                          have R4 := row_grown hrow2 hG4 (fun e => by have := hown b19 e; omega)
                          have x4 := cell_row R4 (j := 1) (v := .slice A out.length c) rfl
                          have f4 := frozen_of_row _ b19 1 _ _ R4
                          refine hK.out _ _ SK4 (fun hHeld => ?_)
                          clear hK K
                          try simp only [Act.put, List.setIfInBounds_toArray, List.set_cons_zero, List.set_cons_succ]
                          refine wpAnyH_take (i := 8) (v := ?v8b) rfl (by kernel_rfl) (by kernel_rfl) (by kernel_rfl) (fun _ _ _ h => h) (Or.inl ⟨by rfl, ?y8b⟩) hHeld ?_
                          case y8b => (intro w hSw; (try dsimp only at hSw); go_simp); with_reducible rfl
                          try simp only [Act.put, List.setIfInBounds_toArray, List.set_cons_zero, List.set_cons_succ]
                          refine wpAnyH_ready (rs := [9]) (by kernel_rfl) (by simp) ?_
                          refine AllReadyH.cons rfl (fun K hK => ?_) AllReadyH.nil
                          go_simp
                          refine hK.out _ _ (HSW5.out _ (grown_setCell w4 ⟨b19, 1, none⟩ _) SK4) (fun hHeld => ?_)
                          clear hK K
                          try simp only [Act.put, List.setIfInBounds_toArray, List.set_cons_zero, List.set_cons_succ]
                          refine wpAnyH_done (by kernel_rfl) ?_ _
                          go_wp2_with fail
                          go_roundg (stay.length - (i + 1))
                          case measure => omega
                          case rel =>
                            refine ⟨i + 1, out ++ [g], some ⟨g2, 0, none⟩, cap2, by omega, by omega, by go_num, by rw [List.length_append]; exact row_set R4 _, ?_, ?_, by simp; omega, ?_⟩
                            · refine ⟨eo ++ [((g.var, g.kind, Ai, g.ins.length, ci), g)], by simp [heo], ?_, fun x hx => ?_⟩
                              · have h5 := hO4.kept (grown_setCell w4 ⟨b19, 1, none⟩ (.slice (some ⟨g2, 0, none⟩) (out.length + 1) cap2)) (.inr (fun e => by injection e with e; have e' : g2 = b19 := e; omega))
                                rw [List.length_append, List.map_append, show (List.map (·.1) [((g.var, g.kind, Ai, g.ins.length, ci), g)]) = [(g.var, g.kind, Ai, g.ins.length, ci)] from rfl, gcells_snoc, hm]
                                exact h5
                              · rw [List.mem_append, List.mem_singleton] at hx
                                rcases hx with hx | rfl
                                · exact heg x hx
                                · exact ⟨rfl, rfl, HG64.out, HIW.out⟩
                            · exact (hKX.grown hG4 (fun r e => .inr (hown r e))).grown (grown_setCell w4 ⟨b19, 1, none⟩ _) (fun r e => .inl (.inl (by injection e with e; exact e.symm)))
                            · show out ++ [g] = _
                              rw [HTK.out, HTT.out]; simp; exact HOUT.out
                    · have hltzi : ¬ (i : Int) < (stay.length : Int) := by omega
                      have hout' : out = stay.filter fun x => T x.var.toNat := by
                        have h : out = (stay.take i).filter fun x => T x.var.toNat := hout
                        rw [List.take_of_length_le (by omega : stay.length ≤ i)] at h
                        exact h
                      have kR : ∀ k, k < WR.heap.size → k ≠ b19 → V2.heap[k]? = WR.heap[k]? := fun k h1 h2 => hKX.block k h1 (fun h => by
                        rcases h with h | ⟨h, _⟩
                        · exact h2 h
                        · omega)
                      have rV := (kR (n + 1) (by omega) (by omega)).trans rR
                      have hbs2 : WR.heap.size ≤ V2.heap.size := hKX.size
                      have HOUT := hid hout'
                      have HRG := hid hRG
                      have HKR := hid kR
                      have HKX := hid hKX
                      have v0 := cell_row hrow2 (j := 0) (v := .slice Ao nP co) rfl
                      have v1 := cell_row hrow2 (j := 1) (v := .slice A out.length c) rfl
                      have v2 := cell_row hrow2 (j := 2) (v := .int .i64 o) rfl
                      have rS1 := row_set rV (i := 0) (.slice Ao nP co)
                      have rS2 := row_set rS1 (i := 1) (.slice A out.length c)
                      have rS3 := row_set rS2 (i := 2) (.int .i64 o)
                      have sf0 := frozen_of_row _ (n + 1) 0 _ _ rV
                      have sf1 := frozen_of_row _ (n + 1) 1 _ _ rS1
                      have sf2 := frozen_of_row _ (n + 1) 2 _ _ rS2
                      have sc0 := cell_row rV (j := 0) (v := .slice none 0 0) rfl
                      have sc1 := cell_row rS1 (j := 1) (v := .slice none 0 0) rfl
                      have sc2 := cell_row rS2 (j := 2) (v := .int .i64 0) rfl
                      clear hout hout' hRG kR hKX hSr2 hSr hGA hKW hlti
                      go_wp2_with fail
                      have hg4 : V2.grownBy (((V2.setCell ⟨n + 1, 0, none⟩ (.slice Ao nP co)).setCell ⟨n + 1, 1, none⟩ (.slice A out.length c)).setCell ⟨n + 1, 2, none⟩ (.int .i64 o)) (some (n + 1)) :=
                        ((grown_setCell V2 ⟨n + 1, 0, none⟩ _).trans (grown_setCell _ ⟨n + 1, 1, none⟩ _)).trans (grown_setCell _ ⟨n + 1, 2, none⟩ _)
                      clear sf0 sf1 sf2 sc0 sc1 sc2 rS1 rS2 v0 v1 v2
                      revert rS3 hg4
                      generalize (((V2.setCell ⟨n + 1, 0, none⟩ (.slice Ao nP co)).setCell ⟨n + 1, 1, none⟩ (.slice A out.length c)).setCell ⟨n + 1, 2, none⟩ (.int .i64 o)) = WT
                      intro rS3 hg4
                      have z3 := hg4.size
                      have hBV : Below n w V2 := keepx_below HKX.out hBnR (by omega) (fun k h => by omega) (by omega) HN.out
                      have hBT : Below n w WT := hBV.grown hg4 (by omega) (fun r e => by injection e with e; omega)
                      refine bodyPost_ret (results_cell_row (p := 4) (ty := 25) rfl _ _ (n + 1) 25 _ (0, 0) _ rfl rS3 Try.underlying25 rfl (by kernel_rfl)) rfl ⟨HN.out ▸ hBT, _, rfl, ?_⟩
                      intro wF hsF hkF
                      have hkF' : ∀ k, n ≤ k → k < WT.heap.size → wF.heap[k]? = WT.heap[k]? := fun k h1 h2 => hkF k (HN.out ▸ h1) h2
                      have hkV : ∀ k, n ≤ k → k < V2.heap.size → k ≠ n + 1 → wF.heap[k]? = V2.heap[k]? := fun k h1 h2 h3 => (hkF' k h1 (by omega)).trans (hg4.block k h2 (by intro e; injection e with e; exact h3 e))
                      have bT := G3 wF (by omega) (fun k h1 h2 h3 => (hkV k (by omega) (by omega) (by omega)).trans ((HKR.out k (by omega) h3).trans (hBR.block k h2)))
                      rw [HFIL.out]
                      refine ⟨.slice Ao nP co, .slice A out.length c, rfl, ?_, bT, ?_⟩
                      · show I64 o
                        have := HER.out.val
                        rw [HO2.out] at this
                        unfold I64; omega
                      · have hkeep : Keeps W0 wF := HKF.out wF (fun k h1 h2 => (hkV k (by omega) (by omega) (by omega)).trans (HKR.out k (by omega) (by omega)))
                        obtain ⟨es, h1, h2, h3⟩ := HRG.out
                        have hF : RowG W0 wF WR.heap.size (.slice A out.length c) out := ⟨es, h1, own_move h2 (fun b cs' fr hb hc => by
                          exact (hkV b (by omega) (row_lt hc) (by omega)).trans hc), h3⟩
                        have := hF.at hkeep
                        show GatesAt wF (.slice A out.length c) (stay.filter fun x => T x.var.toNat)
                        rw [← HOUT.out]
                        exact this
end Go.Proofs.Ytnlobmepajakcaa
