/- What the law's bools and the reference's Values do; the conditions: the lists read as data, the net has at most 300 gates and 1,500 literals. -/
import Derived.Test.YtnlobmepajakcaaRefE
set_option linter.unusedVariables false
set_option linter.unusedSimpArgs false
namespace Go.Proofs.Ytnlobmepajakcaa
open Go.RowKit Go.Shelf

def bls (xs : List Bool) : List Value := xs.map fun x => .bool x
theorem bls_length (xs : List Bool) : (bls xs).length = xs.length := by simp [bls]
theorem bls_snoc (xs : List Bool) (x : Bool) : bls xs ++ (#[Value.bool x] : Array Value).toList = bls (xs ++ [x]) := by simp [bls]
theorem bools_of_own {w : World} {base n : Nat} {v : Value} {xs : List Bool} (h : w.ownsRow base 4 1 v n (bls xs)) (hm : n ≤ 9223372036854775807) : BoolsAt w v xs := by
  have hl : xs.length = n := by have := h.1; rw [bls_length] at this; omega
  rcases h.2 with ⟨rfl, h0⟩ | ⟨g, cap, cur, rfl, hb, hh, h1, h2, h3, h4⟩
  · subst h0
    have : xs = [] := List.eq_nil_of_length_eq_zero hl
    subst this
    exact ⟨none, 0, rfl, Nat.le_refl _, by omega, fun h => by simp at h⟩
  · refine ⟨some ⟨g, 0, none⟩, cap, by rw [hl], by omega, by simpa [maxLen] using h2, fun hp => ⟨g, 0, rfl, fun j x hj => ?_⟩⟩
    have hc := h.cells (g := g) rfl j (.bool x) (by simp [bls, hj])
    have hadd : (⟨g, 0, none⟩ : Addr).add j = ⟨g, j, none⟩ := by unfold Addr.add; split <;> simp_all
    rw [hadd] at hc
    show _ = _
    rw [Nat.zero_add, Nat.mul_one]; exact hc
theorem bools_nil (w : World) : BoolsAt w (.slice none 0 0) [] := ⟨none, 0, rfl, Nat.le_refl _, by omega, fun h => by simp at h⟩

theorem drop_neB {xs ys : List Bool} {j : Nat} {x y : Bool} (hx : xs[j]? = some x) (hy : ys[j]? = some y) (h : x ≠ y) : decide (xs = ys) = false := by
  rw [decide_eq_false_iff_not]; intro e; rw [e] at hx; rw [hx] at hy; injection hy with hy; exact h hy
theorem take_snocB {xs : List Bool} {k : Nat} {x : Bool} (h : xs[k]? = some x) : xs.take (k + 1) = xs.take k ++ [x] := by
  obtain ⟨hk, hx⟩ := List.getElem?_eq_some_iff.1 h
  rw [List.take_add_one, h]; rfl
theorem bools_any (v1 v2 : Value) (xs ys : List Bool) (w : World) (h1 : BoolsAt w v1 xs) (h2 : BoolsAt w v2 ys) :
    Calls Try.prog 27 #[v1, v2] w fun e w' => e = .returned (.bool (decide (xs = ys))) ∧ Below w.heap.size w w' := by
  obtain ⟨A, c, rfl, hlc, hcm⟩ := h1.form
  obtain ⟨A2, c2, rfl, hlc2, hcm2⟩ := h2.form
  by_cases hl : xs.length = ys.length
  · have hz : ((xs.length : Int) != (ys.length : Int)) = false := by simp [hl]
    have HL := hid hl
    clear hl
    go_enter Try.func27, Try.ntmps27
    go_wp2_with fail
    go_loopg [5, 13] xs.length (fun gg _ s13 wr => ∃ j : Nat, j ≤ xs.length ∧ xs.length - j ≤ gg ∧ s13 = .int .i64 j ∧ Below w.heap.size w wr ∧ Aside (xs.take j = ys.take j))
    case atStart => exact ⟨0, Nat.zero_le _, by omega, rfl, Below.refl _ _, rfl⟩
    case round =>
      obtain ⟨j, hj, hg, rfl, hB, hT⟩ := hrel
      by_cases hlt : j < xs.length
      · obtain ⟨x, hx, -, -⟩ := nth hlt
        obtain ⟨y, hy, -, -⟩ := nth (show j < ys.length by rw [← HL.out]; exact hlt)
        obtain ⟨b, off, rfl, hcx⟩ := (h1.keep (keeps_below hB)).at_ j x hx
        obtain ⟨b2, off2, rfl, hcy⟩ := (h2.keep (keeps_below hB)).at_ j y hy
        have hltz : (j : Int) < (xs.length : Int) := by omega
        have hltz2 : (j : Int) < (ys.length : Int) := by rw [← HL.out]; omega
        have hj0 : 0 ≤ (j : Int) := by omega
        have g1 := fun p => cell_since hcx p
        have g2 := fun p => cell_since hcy p
        have HXY := hid (And.intro hx hy)
        have HT := hid hT
        clear hx hy hT
        go_wp2_with fail
        refine region_quiet (by kernel_rfl) (by kernel_rfl) ?_
        repeat (first | go_big_quiet_step (fail) | quiet_step (fail))
        refine wpQuiet_nil ?_
        rintro W2 ⟨pw, hW2⟩
        have hB2 : Below wr.heap.size wr W2 := by rw [hW2]; exact since_below wr pw
        clear hW2 g1 g2
        have hB3 := below_then hB hB.size hB2
        cases x <;> cases y
        all_goals
          first
          | (go_wp2_with fail
             go_roundg (xs.length - (j + 1))
             case measure => omega
             case rel =>
               refine ⟨j + 1, by omega, by omega, by go_num, hB3, ?_⟩
               show xs.take (j + 1) = ys.take (j + 1)
               rw [take_snocB HXY.out.1, take_snocB HXY.out.2, HT.out])
          | (go_wp2_with fail
             go_ret
             exact ⟨ret_bool (drop_neB HXY.out.1 HXY.out.2 (by decide)).symm, hB3⟩)
      · have hltz : ¬ (j : Int) < (xs.length : Int) := by omega
        have he : xs = ys := by
          have := hT
          rw [List.take_of_length_le (by omega : xs.length ≤ j), List.take_of_length_le (by have := HL.out; omega : ys.length ≤ j)] at this
          exact this
        have HE := hid he
        clear he hT
        go_wp2_with fail
        go_ret
        exact ⟨ret_bool (decide_eq_true HE.out).symm, hB⟩
  · have hz : ((xs.length : Int) != (ys.length : Int)) = true := by simp; omega
    have HL := hid hl
    clear hl
    go_enter Try.func27, Try.ntmps27
    go_wp2_with fail
    go_ret
    exact ⟨ret_bool (by symm; rw [decide_eq_false_iff_not]; intro e; exact HL.out (by rw [e])), Below.refl _ _⟩

/-- What Values hands back. -/
def valuesP (N : PNet) (a : List Int) : List Bool × Int := if (mayP N && normFrom 0 a) = true then (N.gates.map fun g => valsP N a g.var.toNat, 0) else ([], 2)
/-- A slice that reads as xs, and an error. -/
def ValPost (N : PNet) (a : List Int) (w : World) (e : Ending) (w' : World) : Prop :=
  Below w.heap.size w w' ∧ ∃ v, e = .returned (.tuple #[v, .int .i64 (valuesP N a).2]) ∧ BoolsAt w' v (valuesP N a).1
set_option maxRecDepth 100000 in
set_option maxHeartbeats 4000000 in
theorem ValuesR_any (v va : Value) (N : PNet) (a : List Int) (w : World) (h : NetAt w v N) (ha : IntsAt w va a) (hl : litSum N.gates ≤ 1500) (hgl : N.gates.length ≤ 300) :
    Calls Try.prog 26 #[v, va] w (ValPost N a w) := by
  have hN := h
  obtain ⟨vp, vg, rfl, ho, hp, hgt⟩ := h
  obtain ⟨Ap, cp, rfl, hlp, hcp⟩ := hp.form
  obtain ⟨Ag, cg, rfl, hlg, hcg⟩ := hgt.form
  obtain ⟨Aa, ca, rfl, hla, hca⟩ := ha.form
  obtain ⟨w1, hw1, -, -, z1, hB1, q1⟩ := new_block w #[.slice Ap N.pre.length cp, .slice Ag N.gates.length cg, .int .i64 N.out] 25
  have rows : ∀ W, Below w1.heap.size w1 W → W.cell? ⟨w.heap.size, 0, none⟩ = some (.slice Ap N.pre.length cp) ∧ W.cell? ⟨w.heap.size, 1, none⟩ = some (.slice Ag N.gates.length cg) ∧ W.cell? ⟨w.heap.size, 2, none⟩ = some (.int .i64 N.out) := fun W hW =>
    ⟨cell_row (row_below q1 hW) rfl, cell_row (row_below q1 hW) rfl, cell_row (row_below q1 hW) rfl⟩
  have CM := MayR_any _ N w1 (hN.keep (keeps_below hB1)) hl hgl
  have CN := fun W (hW : Below w1.heap.size w1 W) => NormalR_any (.slice Aa a.length ca) a W (ha.keep (keeps_below (below_then hB1 hB1.size hW)))
  obtain ⟨a0, a1, a2⟩ := rows w1 (Below.refl _ _)
  go_enter Try.func26, Try.ntmps26
  cases hm : mayP N with
  | false =>
    rw [hm] at CM
    have e : valuesP N a = ([], 2) := by unfold valuesP; rw [hm]; rfl
    unfold ValPost
    rw [e]
    clear e hm
    go_wp2_with (go_at_call 18; refine CM.mono ?_; rintro e w2 ⟨rfl, hB2⟩)
    go_ret2
    exact ⟨below_then hB1 hB1.size hB2, _, rfl, bools_nil _⟩
  | true =>
    rw [hm] at CM
    have HM := hid hm
    clear hm
    cases hn : normFrom 0 a with
    | false =>
      rw [hn] at CN
      have e : valuesP N a = ([], 2) := by unfold valuesP; rw [HM.out, hn]; rfl
      unfold ValPost
      rw [e]
      clear e hn
      go_wp2_with (first | (go_at_call 18; refine CM.mono ?_; rintro e w2 ⟨rfl, hB2⟩) | (go_at_call 47; refine (CN _ hB2).mono ?_; rintro e w3 ⟨rfl, hB3⟩))
      go_ret2
      exact ⟨below_then hB1 hB1.size (below_then hB2 hB2.size hB3), _, rfl, bools_nil _⟩
    | true =>
      rw [hn] at CN
      have HN := hid hn
      have e : valuesP N a = (N.gates.map fun g => valsP N a g.var.toNat, 0) := by unfold valuesP; rw [HM.out, hn]; rfl
      have hgv := hid (mayP_gates HM.out)
      unfold ValPost
      rw [e]
      clear e hn
      go_wp2_with (first | (go_at_call 18; refine CM.mono ?_; rintro e w2 ⟨rfl, hB2⟩) | (go_at_call 47; refine (CN _ hB2).mono ?_; rintro e w3 ⟨rfl, hB3⟩; obtain ⟨b0, b1, b2⟩ := rows _ (below_then hB2 hB2.size hB3)))
      have hB13 : Below w1.heap.size w1 w3 := below_then hB2 hB2.size hB3
      have CA := allR_any _ (.slice Aa a.length ca) N a w3 (hN.keep (keeps_below (below_then hB1 hB1.size hB13))) (ha.keep (keeps_below (below_then hB1 hB1.size hB13))) HM.out HN.out
      clear CM CN a0 a1 a2 hB2 hB3
      refine CA.mono ?_
      rintro e w4 ⟨b, rfl, hV4, hB4⟩
      have hB14 := below_then hB13 hB13.size hB4
      have hb := hV4.lt
      have hB14s := hB14.size
      clear hB13 b0 b1 b2 CA hB4
      obtain ⟨WA, hWA⟩ : ∃ WA, WA = w4 := ⟨_, rfl⟩
      go_wp2_with fail
      go_loopg [7, 8] N.gates.length (fun gg s7 s8 wr => ∃ (i : Nat) (Ao : Option Addr) (co : Nat) (out : List Bool), i ≤ N.gates.length ∧ N.gates.length - i ≤ gg ∧ s8 = .int .i64 i ∧ s7 = .slice Ao i co ∧ Below w1.heap.size w1 wr ∧ SetAt wr b 4 (valsP N a) ∧ WA.heap.size ≤ wr.heap.size ∧
        wr.ownsRow WA.heap.size 4 1 (.slice Ao i co) i (bls out) ∧ Aside (out = (N.gates.take i).map fun g => valsP N a g.var.toNat))
      case atStart => subst hWA; exact ⟨0, none, 0, [], Nat.zero_le _, by omega, rfl, rfl, hB14, hV4, Nat.le_refl _, World.ownsRow_nil _ _ _ _, rfl⟩
      case round =>
        rw [← hWA] at hb hB14s
        clear hV4 hB14 hWA
        obtain ⟨i, Ao, co, out, hi', hgi, rfl, rfl, hB, hV, hsz, hO, hT⟩ := hrel
        obtain ⟨-, c1, -⟩ := rows wr hB
        by_cases hlt : i < N.gates.length
        · obtain ⟨g, hgx, hgm, hgd⟩ := nth hlt
          obtain ⟨bg, offg, vi, eA, hc0, hc1, hc2, hi, h64, hkd0, hkd1⟩ := (hgt.keep (keeps_below (below_then hB1 hB1.size hB))).at_ i g hgx
          subst eA
          have hltz : (i : Int) < (N.gates.length : Int) := by omega
          obtain ⟨hsh, hg1, hg2⟩ := hgv.out g hgm
          obtain ⟨m, hm⟩ : ∃ m : Nat, g.var = m := Int.eq_ofNat_of_zero_le (by omega)
          have hm1 : m < 65537 := by omega
          rw [hm] at hc0
          have hcm := hV.cell m hm1
          have HG := hid (And.intro hgx hm)
          have HT := hid hT
          clear hgx hgd hgm hm hsh hg1 hg2 hc1 hc2 hi h64 hkd0 hkd1 hT
          go_wp2_with (at_builtin; refine append_one WA.heap.size rfl _ _ 47 4 (.bool false) 1 1 rfl Try.underlying47 info4 rfl (by decide) (by decide) (.slice Ao i co) i (bls out) #[.bool (valsP N a m)] rfl rfl rfl (by intro u hu; simp at hu; subst hu; rfl) hO (by omega) (by omega) ?_; intro g' cap w5 hO5 hG5 hg5 hbg hlt5)
          rw [bls_snoc] at hO5
          have hs5 := hG5.size
          have hB5 : Below w1.heap.size w1 w5 := hB.grown hG5 hB.size (fun q e => by have := (hO.lt q e).1; have := hB14s; omega)
          have hV5 := hV.kept hG5 (by
            intro e
            have := (hO.lt _ e).1
            omega)
          go_roundg (N.gates.length - (i + 1))
          case measure => omega
          case rel =>
            refine ⟨i + 1, some ⟨g', 0, none⟩, cap, out ++ [valsP N a m], by omega, by omega, by go_num, rfl, hB5, hV5, by omega, hO5, ?_⟩
            show _ = _
            rw [take_snoc HG.out.1, HT.out]
            simp [HG.out.2]
        · have hltz : ¬ (i : Int) < (N.gates.length : Int) := by omega
          have hil : i = N.gates.length := by omega
          have hbl : BoolsAt wr (.slice Ao N.gates.length co) out := by rw [← hil]; exact bools_of_own hO (by omega)
          have e : out = N.gates.map fun g => valsP N a g.var.toNat := by
            have : out = (N.gates.take i).map fun g => valsP N a g.var.toNat := hT
            rw [List.take_of_length_le (by omega)] at this
            exact this
          have HE := hid e
          have HBL := hid hbl
          clear e hT hbl hO hV
          go_wp2_with fail
          go_ret2
          exact ⟨below_then hB1 hB1.size hB, _, rfl, by rw [← HE.out]; exact HBL.out⟩
end Go.Proofs.Ytnlobmepajakcaa
