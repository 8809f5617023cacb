/- What circ.Values does; the conditions: the net's gates are at most 2^40 and have at most 2^62 literals. -/
import Derived.Test.YtnlobmepajakcaaRefVal
set_option linter.unusedVariables false
set_option linter.unusedSimpArgs false
namespace Go.Proofs.Ytnlobmepajakcaa
open Go.RowKit Go.Shelf

/-- A row of n bools in a block of its own. -/
def RowB (w : World) (b n : Nat) (S : Nat → Bool) : Prop :=
  ∃ cs : Array Value, w.heap[b]? = some (.cells cs 4 (0, 0)) ∧ cs.size = n ∧ ∀ i, i < n → cs[i]? = some (.bool (S i))
theorem RowB.cell {w : World} {b n : Nat} {S : Nat → Bool} (h : RowB w b n S) (i : Nat) (hi : i < n) : w.cell? ⟨b, i, none⟩ = some (.bool (S i)) := by
  obtain ⟨cs, h1, _, h3⟩ := h
  rw [cell_of_row w b i cs 4 (0, 0) h1, h3 i hi]
theorem RowB.free {w : World} {b n : Nat} {S : Nat → Bool} (h : RowB w b n S) (i : Nat) : w.frozen? ⟨b, i, none⟩ = false := by
  obtain ⟨cs, h1, _, h3⟩ := h
  exact frozen_of_row w b i cs 4 h1
theorem RowB.lt {w : World} {b n : Nat} {S : Nat → Bool} (h : RowB w b n S) : b < w.heap.size := by
  obtain ⟨cs, h1, _, h3⟩ := h
  exact (Array.getElem?_eq_some_iff.1 h1).1
theorem RowB.heap {w w' : World} {b n : Nat} {S : Nat → Bool} (h : RowB w b n S) (e : w'.heap[b]? = w.heap[b]?) : RowB w' b n S := by
  obtain ⟨cs, h1, h2, h3⟩ := h
  exact ⟨cs, e.trans h1, h2, h3⟩
theorem RowB.below {w w' : World} {b n : Nat} {S : Nat → Bool} (h : RowB w b n S) (hb : Below w.heap.size w w') : RowB w' b n S := h.heap (hb.block b h.lt)
theorem RowB.store {w : World} {b n : Nat} {S : Nat → Bool} (h : RowB w b n S) (i : Nat) (x : Bool) : RowB (w.setCell ⟨b, i, none⟩ (.bool x)) b n (upd S i x) := by
  obtain ⟨cs, h1, h2, h3⟩ := h
  refine ⟨cs.setIfInBounds i (.bool x), heap_setCell_same w b i cs 4 _ h1, by simp [h2], fun j hj => ?_⟩
  rw [Array.getElem?_setIfInBounds]
  unfold upd
  by_cases e : j = i
  · subst e
    simp [h2, hj]
  · rw [if_neg (fun e' => e e'.symm), if_neg e]
    exact h3 j hj
theorem RowB.at_ {w : World} {b n : Nat} {S : Nat → Bool} (h : RowB w b n S) (xs : List Bool) (hl : xs.length = n) (hn : n ≤ 9223372036854775807) (hx : ∀ j x, xs[j]? = some x → S j = x) : BoolsAt w (.slice (some ⟨b, 0, none⟩) n n) xs := by
  subst hl
  refine ⟨_, _, rfl, Nat.le_refl _, hn, fun _ => ⟨b, 0, rfl, fun j x hj => ?_⟩⟩
  show _ = _
  rw [Nat.zero_add, Nat.mul_one, h.cell j (List.getElem?_eq_some_iff.1 hj).1, hx j x hj]
theorem make47n (n : Nat) (h : n ≤ 1099511627776) (W : World) : (Instr.makeSlice 47 (.int .i64 (n : Int)) (.int .i64 (n : Int))).run Try.prog W = .ok (.slice (some ⟨W.heap.size, 0, none⟩) n n) (W.alloc (.cells (madeCells #[.bool false] n) 4)) := by
  obtain ⟨i0, hi, hzz⟩ := Option.map_eq_some_iff.1 info4
  simp only [Prod.mk.injEq] at hzz
  obtain ⟨hz0, hz1, hz2⟩ := hzz
  have := run_make (P := Try.prog) W 47 4 i0 (.bool false) Try.underlying47 hi hz0 .i64 .i64 n n (by omega) (Int.le_refl _) (by rw [hz2]; omega) (by omega)
  rw [hz1, Nat.mul_one, Int.toNat_natCast] at this
  exact this
theorem row_made (w : World) (n : Nat) : RowB (w.alloc (.cells (madeCells #[Value.bool false] n) 4)) w.heap.size n noS :=
  ⟨_, heap_alloc_new w _, by simp [madeCells], fun i hi => by unfold madeCells noS; simp [hi, Nat.mod_one]⟩

set_option maxRecDepth 100000 in
set_option maxHeartbeats 4000000 in
theorem Values_any (v va : Value) (N : PNet) (a : List Int) (w : World) (h : NetAt w v N) (ha : IntsAt w va a) (hl : litSum N.gates ≤ 4611686018427387904) (hgl : N.gates.length ≤ 1099511627776) :
    Calls Try.prog 25 #[v, va] w (ValPost N a w) := by
  obtain ⟨vp, vg, rfl, ho, hp, hgt⟩ := h
  obtain ⟨Ag, cg, rfl, hlg, hcg⟩ := hgt.form
  obtain ⟨W1, hW1, hc1, hf1, hz1, hB1, hh1⟩ := new_block w #[vp, .slice Ag N.gates.length cg, .int .i64 N.out] 25
  have C1 := worked_any (.agg #[vp, .slice Ag N.gates.length cg, .int .i64 N.out]) va N a W1 ⟨vp, _, rfl, ho, hp.keep (keeps_below hB1), hgt.keep (keeps_below hB1)⟩ (ha.keep (keeps_below hB1)) hl
  have rows : ∀ W, Below W1.heap.size W1 W → W.cell? ⟨w.heap.size, 0, none⟩ = some vp ∧ W.cell? ⟨w.heap.size, 1, none⟩ = some (.slice Ag N.gates.length cg) ∧ W.cell? ⟨w.heap.size, 2, none⟩ = some (.int .i64 N.out) := fun W hW =>
    ⟨cell_row (row_below hh1 hW) rfl, cell_row (row_below hh1 hW) rfl, cell_row (row_below hh1 hW) rfl⟩
  obtain ⟨a0, a1, a2⟩ := rows W1 (Below.refl _ _)
  clear hc1 hf1
  cases hm : (mayP N && normFrom 0 a) with
  | false =>
    have e : valuesP N a = ([], 2) := by unfold valuesP; rw [hm]; rfl
    unfold ValPost
    rw [e]
    have HM := hid hm
    clear hm e
    go_enter Try.func25, Try.ntmps25
    go_wp2_with fail
    refine C1.mono ?_
    rintro e w2 ⟨hB2, ⟨-, rfl⟩ | ⟨h, -⟩⟩
    · go_wp2_with fail
      go_ret2
      exact ⟨below_then hB1 hB1.size hB2, _, rfl, bools_nil _⟩
    · rw [HM.out] at h; cases h
  | true =>
    have e : valuesP N a = (N.gates.map fun g => valsP N a g.var.toNat, 0) := by unfold valuesP; rw [hm]; rfl
    unfold ValPost
    rw [e]
    have HM := hid hm
    have hgv := hid (mayP_gates (by rw [Bool.and_eq_true] at hm; exact hm.1))
    clear hm e
    go_enter Try.func25, Try.ntmps25
    go_wp2_with fail
    refine C1.mono ?_
    rintro e w2 ⟨hB2, ⟨h, -⟩ | ⟨-, b, rfl, hV2⟩⟩
    · rw [HM.out] at h; cases h
    clear C1 a0 a1 a2
    obtain ⟨a0, a1, a2⟩ := rows w2 hB2
    have hb2 := hV2.lt
    have hs2 := hB2.size
    have hmk := make47n N.gates.length hgl w2
    have hR3 := row_made w2 N.gates.length
    have hB23 : Below w2.heap.size w2 (w2.alloc (.cells (madeCells #[Value.bool false] N.gates.length) 4)) := (Below.refl _ w2).alloc (Nat.le_refl _) _
    have hz3 : (w2.alloc (.cells (madeCells #[Value.bool false] N.gates.length) 4)).heap.size = w2.heap.size + 1 := World.size_alloc _ _
    revert hmk hR3 hB23 hz3
    generalize w2.alloc (.cells (madeCells #[Value.bool false] N.gates.length) 4) = w3
    intro hmk hR3 hB23 hz3
    have hB13 := below_then hB2 hB2.size hB23
    obtain ⟨b0, b1, b2⟩ := rows w3 hB13
    have hV3 := hV2.below hB23
    have hlt3 := hR3.lt
    clear hV2 hB23 hB2 a0 a2
    go_wp2_with fail
    clear hmk a1 b0 b1 b2
    go_loopg [9, 10, 27] N.gates.length (fun gg _ _ s27 wr => ∃ (i : Nat) (S : Nat → Bool), i ≤ N.gates.length ∧ N.gates.length - i ≤ gg ∧ s27 = .int .i64 i ∧ w3.grownBy wr (some w2.heap.size) ∧ RowB wr w2.heap.size N.gates.length S ∧
      Aside (∀ j g, j < i → N.gates[j]? = some g → S j = valsP N a g.var.toNat))
    case atStart => exact ⟨0, noS, Nat.zero_le _, by omega, rfl, World.grownBy.refl _ _, hR3, fun j g hj => by omega⟩
    case round =>
      clear hR3
      obtain ⟨i, S, hi', hgi, rfl, hG, hR, hT⟩ := hrel
      have hBr : Below W1.heap.size W1 wr := hB13.grown hG hB13.size (fun q e => by cases e; omega)
      have hB0r := below_then hB1 hB1.size hBr
      have hVr := hV3.kept hG (by intro e; injection e with e; omega)
      by_cases hlt : i < N.gates.length
      · obtain ⟨g, hgx, hgm, hgd⟩ := nth hlt
        obtain ⟨bg, offg, vi, eA, hc0, hc1, hc2, hi, h64, hkd0, hkd1⟩ := (hgt.keep (keeps_below hB0r)).at_ i g hgx
        subst eA
        obtain ⟨Ai, ci, rfl, hli, hci⟩ := hi.form
        have hltz : (i : Int) < (N.gates.length : Int) := by omega
        obtain ⟨hsh, hg1, hg2⟩ := hgv.out g hgm
        obtain ⟨m, hm⟩ : ∃ m : Nat, g.var = m := Int.eq_ofNat_of_zero_le (by omega)
        have hm1 : m < 65537 := by omega
        rw [hm] at hc0
        obtain ⟨wg, hwg, hcg', hfg, hzg, hBg, hhg⟩ := new_block wr #[.int .i64 (m : Int), .int .u8 g.kind, .slice Ai g.ins.length ci] 70
        have hVg := hVr.below hBg
        have hRg := hR.below hBg
        have g0 := fun p => cell_since (hcg' 0 _ rfl) p
        have g1 := fun p => cell_since (hVg.cell m hm1) p
        have hGg := hG.trans (grown_of_below hBg (some w2.heap.size))
        have HG := hid (And.intro hgx hm)
        have HT := hid hT
        generalize hy : valsP N a m = y at g1
        have HY := hid hy
        clear hgx hgd hgm hm hsh hg1 hg2 hi h64 hkd0 hkd1 hT hVr hVg hfg hhg hR hy
        go_wp2_with fail
        refine region_tail 9 (by kernel_rfl) (by kernel_rfl) ?_
        simp only [List.take_succ_cons, List.take_zero, List.drop_succ_cons, List.drop_zero]
        repeat (first | go_big_quiet_step (fail) | quiet_step (fail))
        refine wpQuiet_nil ?_
        rintro W ⟨pw, hW⟩
        have hBW : Below wg.heap.size wg W := by rw [hW]; exact since_below wg pw
        have hRW := hRg.below hBW
        have hcW := hRW.cell i hlt
        have hfW := hRW.free i
        have hGW := hGg.trans (grown_of_below hBW (some w2.heap.size))
        have HRW := hid hRW
        clear hW hRg hRW
        go_wp2_with fail
        go_roundg (N.gates.length - (i + 1))
        case measure => omega
        case rel =>
          refine ⟨i + 1, _, by omega, by omega, by go_num, hGW.trans (grown_setCell _ _ _), HRW.out.store i _, ?_⟩
          intro j g' hj hg'
          unfold upd
          by_cases e : j = i
          · subst e
            rw [if_pos rfl]
            rw [HG.out.1] at hg'
            injection hg' with hg'
            rw [← hg', HG.out.2, ← HY.out]; rfl
          · rw [if_neg e]
            exact HT.out j g' (by omega) hg'
      · have hltz : ¬ (i : Int) < (N.gates.length : Int) := by omega
        have hb := hR.at_ (N.gates.map fun g => valsP N a g.var.toNat) (by simp) (by omega) (fun j x hj => by
          rw [List.getElem?_map] at hj
          obtain ⟨g, hg, rfl⟩ := Option.map_eq_some_iff.1 hj
          exact hT j g (by have := (List.getElem?_eq_some_iff.1 hg).1; omega) hg)
        have HB := hid hb
        clear hb hR hT
        go_wp2_with fail
        go_ret2
        exact ⟨hB0r, _, rfl, HB.out⟩
end Go.Proofs.Ytnlobmepajakcaa
