/- What circ.Cofactor and circ.Simple return; the conditions: the net and the list read as data, and the net has at most 1,000,000 gates and 2^62 literals. -/
import Derived.Test.YtnlobmepajakcaaSimple
import Derived.Laws.ResultCell
set_option linter.unusedVariables false
set_option linter.unusedSimpArgs false
namespace Go.Proofs.Ytnlobmepajakcaa
open Go.RowKit Go.Shelf

theorem results_row_tmp {P : Program} {fn : Func} {p u : Tmp} {ty : TypeId} (h : fn.results = #[.cell p ty, .tmp u]) (tmps : Array Value) (w : World) (g : Nat) (t : TypeId) (cs : Array Value) (fr : Nat × Nat) (d : TypeDesc)
    (hp : tmps.getD p undef = .pointer (some ⟨g, 0, none⟩)) (hg : w.heap[g]? = some (.cells cs t fr))
    (hu : P.underlying ty = some d) (hd : (match d with | .struct _ | .array _ _ => true | _ => false) = true) (hi : (P.info? ty).map (·.size) = some cs.size) :
    (results fn tmps).run P w = .ok (.tuple #[.agg cs, tmps.getD u undef]) w := by
  rw [results_cell_tmp h, hp]
  simp [asAddr, run_loadVar_row w g t ty cs fr d hg hu hd hi, Result.andThen]
theorem simple_may (v va : Value) (N : PNet) (a : List Int) (w : World) (h : NetAt w v N) (ha : IntsAt w va a) (hM : mayP N = true) (hgl : N.gates.length ≤ 1000000) :
    Calls Try.prog 46 #[v, va] w fun e w' => Below w.heap.size w w' ∧ ∃ v', e = .returned v' ∧ NetF w.heap.size w' v' (simpleP 65537 N a) := by
  obtain ⟨hp, _, _⟩ := mayP_pre hM
  have hps : (prefFrom none 0 noS N.pre).isSome = true := by rw [hp]; rfl
  obtain ⟨hr1, hr2⟩ := pre_rng hps
  obtain ⟨halt, _⟩ := preS_of hps
  obtain ⟨hl1, hl2⟩ := may_lits hM
  have hne := alt_ne halt
  refine simple_any v va N a w h ha hM (fun y hy => by have := hr1 y hy; omega) (fun g hg l hl => ?_) ?_ hgl ?_ (fun x hx => ⟨hne x hx, ?_, fun y hy => ?_⟩) (without_some hps _)
  · have := absN_pos (hl1 g hg l hl); exact ⟨this.1, this.2.1⟩
  · have := absN_pos hl2; exact ⟨this.1, this.2.1⟩
  · have := blocks_le hne; omega
  · have := (block_le hx).1; omega
  · have := hr1 y ((block_le hx).2 y hy); omega
theorem strange44 (b t : Nat) (S : Nat → Bool) (l : Int) (w : World) (hs : SetAt w b t S) :
    Calls Try.prog 44 (#[] ++ #[.int .i64 l] ++ #[.pointer (some ⟨b, 0, none⟩)]) w fun e w' => e = .returned (.bool (!S (absN l))) ∧ ∃ n, w' = w.drewN n := by
  have C := has_any b t S l w hs
  generalize S (absN l) = r at C ⊢
  go_enter Try.func44, Try.ntmps44
  go_wp2_with (go_at_call 45; refine C.mono ?_; rintro e w' ⟨rfl, n, rfl⟩)
  go_ret
  exact ⟨rfl, n, rfl⟩
theorem net_no (w : World) : NetAt w (.agg #[.slice none 0 0, .slice none 0 0, .int .i64 0]) noNet :=
  ⟨_, _, rfl, by show I64 0; unfold I64; omega, ⟨none, 0, rfl, Nat.le_refl _, by omega, fun h => absurd h (Nat.lt_irrefl 0)⟩, ⟨none, 0, rfl, Nat.le_refl _, by omega, fun h => absurd h (Nat.lt_irrefl 0)⟩⟩
theorem net_noF (n : Nat) (w : World) : NetF n w (.agg #[.slice none 0 0, .slice none 0 0, .int .i64 0]) noNet := fun w' _ _ => net_no w'
/-- What Cofactor says. -/
def CofPost (w : World) (r : PNet × Int) (e : Ending) (w' : World) : Prop := Below w.heap.size w w' ∧ ∃ v', e = .returned (.tuple #[v', .int .i64 r.2]) ∧ NetF w.heap.size w' v' r.1
theorem put25 {W : World} {b : Nat} {a0 a1 a2 : Value} {t : TypeId} (h : W.heap[b]? = some (.cells #[a0, a1, a2] t (0, 0))) (v0 v1 v2 : Value) :
    W.frozen? ⟨b, 0, none⟩ = false ∧ W.cell? ⟨b, 0, none⟩ = some a0 ∧ (W.setCell ⟨b, 0, none⟩ v0).frozen? ⟨b, 1, none⟩ = false ∧ (W.setCell ⟨b, 0, none⟩ v0).cell? ⟨b, 1, none⟩ = some a1 ∧
    ((W.setCell ⟨b, 0, none⟩ v0).setCell ⟨b, 1, none⟩ v1).frozen? ⟨b, 2, none⟩ = false ∧ ((W.setCell ⟨b, 0, none⟩ v0).setCell ⟨b, 1, none⟩ v1).cell? ⟨b, 2, none⟩ = some a2 ∧
    (((W.setCell ⟨b, 0, none⟩ v0).setCell ⟨b, 1, none⟩ v1).setCell ⟨b, 2, none⟩ v2).heap[b]? = some (.cells #[v0, v1, v2] t (0, 0)) ∧
    W.grownBy (((W.setCell ⟨b, 0, none⟩ v0).setCell ⟨b, 1, none⟩ v1).setCell ⟨b, 2, none⟩ v2) (some b) := by
  have r1 := row_set h (i := 0) v0
  have r2 := row_set r1 (i := 1) v1
  have r3 := row_set r2 (i := 2) v2
  exact ⟨frozen_of_row _ b 0 _ _ h, cell_row h rfl, frozen_of_row _ b 1 _ _ r1, cell_row r1 rfl, frozen_of_row _ b 2 _ _ r2, cell_row r2 rfl, r3,
    ((grown_setCell W ⟨b, 0, none⟩ _).trans (grown_setCell _ ⟨b, 1, none⟩ _)).trans (grown_setCell _ ⟨b, 2, none⟩ _)⟩
set_option maxHeartbeats 4000000 in
theorem Cofactor_any (v va : Value) (N : PNet) (a : List Int) (w : World) (h : NetAt w v N) (ha : IntsAt w va a) (hl : litSum N.gates ≤ 4611686018427387904) (hgl : N.gates.length ≤ 1000000) :
    Calls Try.prog 15 #[v, va] w (CofPost w (cofactorP N a)) := by
  have hN := h
  obtain ⟨vp, vg, rfl, ho, hp, hgt⟩ := h
  obtain ⟨Ap, cp, rfl, hlp, hcp⟩ := hp.form
  obtain ⟨Ag, cg, rfl, hlg, hcg⟩ := hgt.form
  obtain ⟨Aa, ca, rfl, hla, hca⟩ := ha.form
  obtain ⟨w1, hw1, hc1, -, hz1, hB1, hrow1⟩ := new_block w #[.slice Ap N.pre.length cp, .slice Ag N.gates.length cg, .int .i64 N.out] 25
  obtain ⟨w2, hw2, hc2, hf2, hz2, hB2, hrow2⟩ := new_block w1 #[.slice none 0 0, .slice none 0 0, .int .i64 0] 25
  have hB02 := below_then hB1 hB1.size hB2
  have n0 : w2.cell? ⟨w.heap.size, 0, none⟩ = some (.slice Ap N.pre.length cp) := keeps_below hB2 _ _ (hc1 0 _ rfl)
  have n1 : w2.cell? ⟨w.heap.size, 1, none⟩ = some (.slice Ag N.gates.length cg) := keeps_below hB2 _ _ (hc1 1 _ rfl)
  have n2 : w2.cell? ⟨w.heap.size, 2, none⟩ = some (.int .i64 N.out) := keeps_below hB2 _ _ (hc1 2 _ rfl)
  rw [hz1] at hz2 hrow2
  have CMay := fun W (hW : Below w.heap.size w W) => May_any (.agg #[.slice Ap N.pre.length cp, .slice Ag N.gates.length cg, .int .i64 N.out]) N W (hN.keep (keeps_below hW)) hl
  have CNor := fun W (hW : Below w.heap.size w W) => normal_any (.slice Aa a.length ca) a W (ha.keep (keeps_below hW))
  clear hc1 hc2 hf2
  go_enter Try.func15, Try.ntmps15
  cases hm : mayP N with
  | false =>
    rw [hm] at CMay
    have e : cofactorP N a = (noNet, 2) := by unfold cofactorP; rw [hm]; rfl
    rw [e]
    clear e hm
    go_wp2_with (go_at_call 36; refine (CMay _ hB02).mono ?_; rintro e w3 ⟨rfl, hB3⟩; have r3 := row_below hrow2 hB3; have hB03 := below_then hB02 hB02.size hB3; obtain ⟨f0, c0, f1, c1, f2, c2, r4, g4⟩ := put25 r3 (.slice none 0 0) (.slice none 0 0) (.int .i64 0))
    exact bodyPost_ret (results_row_tmp (p := 4) (u := 5) (ty := 25) rfl _ _ (w.heap.size + 1) 25 _ (0, 0) _ rfl r4 Try.underlying25 rfl (by kernel_rfl)) rfl ⟨hB03.grown g4 hB03.size (fun r e => by injection e with e; omega), _, rfl, net_noF _ _⟩
  | true =>
    rw [hm] at CMay
    have HM := hid hm
    clear hm
    cases hn : normFrom 0 a with
    | false =>
      rw [hn] at CNor
      have e : cofactorP N a = (noNet, 2) := by unfold cofactorP; rw [HM.out, hn]; rfl
      rw [e]
      clear e hn
      go_wp2_with (first | (go_at_call 36; refine (CMay _ hB02).mono ?_; rintro e w3 ⟨rfl, hB3⟩; have r3 := row_below hrow2 hB3; have hB03 := below_then hB02 hB02.size hB3; obtain ⟨f0, c0, f1, c1, f2, c2, r4, g4⟩ := put25 r3 (.slice none 0 0) (.slice none 0 0) (.int .i64 0)) | (go_at_call 41; refine (CNor _ hB03).mono ?_; rintro e w4 ⟨rfl, rfl⟩))
      exact bodyPost_ret (results_row_tmp (p := 4) (u := 5) (ty := 25) rfl _ _ (w.heap.size + 1) 25 _ (0, 0) _ rfl r4 Try.underlying25 rfl (by kernel_rfl)) rfl ⟨hB03.grown g4 hB03.size (fun r e => by injection e with e; omega), _, rfl, net_noF _ _⟩
    | true =>
      rw [hn] at CNor
      have HN := hid hn
      clear hn
      obtain ⟨hpre, -, -⟩ := mayP_pre HM.out
      have HPRE := hid hpre
      clear hpre
      go_wp2_with (first | (go_at_call 36; refine (CMay _ hB02).mono ?_; rintro e w3 ⟨rfl, hB3⟩; have r3 := row_below hrow2 hB3; have hB03 := below_then hB02 hB02.size hB3; have q0 := keeps_below hB3 _ _ n0; obtain ⟨w5, hw5, hS5, hz5, hB5⟩ := new_set w3 86; have q5 := keeps_below hB5 _ _ q0; have CP := prefix_any w3.heap.size 86 noS _ N.pre w5 w hp (below_then hB03 hB03.size hB5) hB03.size hS5) | (go_at_call 41; refine (CNor _ hB03).mono ?_; rintro e w4 ⟨rfl, rfl⟩) | (go_at_call 42; refine CP.mono ?_; rintro e w6 ⟨rfl, hG6, S6, hS6, hSS⟩))
      obtain rfl : S6 = preS N := hSS _ HPRE.out
      obtain ⟨W3, rfl⟩ : ∃ W3, W3 = w4 := ⟨_, rfl⟩
      have hb3s := hB3.size
      have hB6 : Below w.heap.size w w6 := (below_then hB03 hB03.size hB5).grown hG6 (by omega) (fun r e => by injection e with e; omega)
      have hlt3 := row_lt r3
      have r6 := row_grown (row_below r3 hB5) hG6 (by intro e; injection e with e; omega)
      have q60 := hG6.cell q5 (by intro e; injection e with e; have e' : w.heap.size = W3.heap.size := e; omega)
      have q61 := hG6.cell (keeps_below hB5 _ _ (keeps_below hB3 _ _ n1)) (by intro e; injection e with e; have e' : w.heap.size = W3.heap.size := e; omega)
      have q62 := hG6.cell (keeps_below hB5 _ _ (keeps_below hB3 _ _ n2)) (by intro e; injection e with e; have e' : w.heap.size = W3.heap.size := e; omega)
      have CC := containsFunc_ints (fun l => !preS N (absN l)) 44 #[] #[.pointer (some ⟨W3.heap.size, 0, none⟩)] (enters_of Try.func44 (by kernel_rfl) rfl) _ a w6
        (fun W => Below w6.heap.size w6 W) (Below.refl _ _) (fun W hW => ha.keep (keeps_below (below_then hB6 hB6.size hW)))
        (fun l W _ hW => (strange44 W3.heap.size 86 (preS N) l W (hS6.below hW)).mono fun e W' ⟨he, n, hw⟩ => ⟨he, by rw [hw]; exact below_drewN hW n⟩)
      clear hG6 q5 q0 CP CMay CNor r3 hS5 hSS hB02 n0 n1 n2
      cases hany : a.any (fun l => !preS N (absN l)) with
      | true =>
        rw [hany] at CC
        have e : cofactorP N a = (noNet, 6) := by unfold cofactorP; rw [HM.out, HN.out, hany]; rfl
        have HE := hid e
        clear e hany
        refine CC.mono ?_
        rintro e w7 ⟨rfl, hB7⟩
        obtain ⟨f0, c0, f1, c1, f2, c2, r4, g4⟩ := put25 (row_below r6 hB7) (.slice none 0 0) (.slice none 0 0) (.int .i64 0)
        have hB07 := below_then hB6 hB6.size hB7
        go_wp2_with fail
        exact bodyPost_ret (results_row_tmp (p := 4) (u := 5) (ty := 25) rfl _ _ (w.heap.size + 1) 25 _ (0, 0) _ rfl r4 Try.underlying25 rfl (by kernel_rfl)) rfl (by rw [HE.out]; exact ⟨hB07.grown g4 hB07.size (fun r e => by injection e with e; omega), _, rfl, net_noF _ _⟩)
      | false =>
        rw [hany] at CC
        have e : cofactorP N a = (simpleP 65537 N a, 0) := by unfold cofactorP; rw [HM.out, HN.out, hany]; rfl
        have HE := hid e
        clear e hany
        refine CC.mono ?_
        rintro e w7 ⟨rfl, hB7⟩
        have hB07 := below_then hB6 hB6.size hB7
        have r7 := row_below r6 hB7
        have q70 := keeps_below hB7 _ _ q60
        have q71 := keeps_below hB7 _ _ q61
        have q72 := keeps_below hB7 _ _ q62
        have CS := simple_may _ _ N a w7 (hN.keep (keeps_below hB07)) (ha.keep (keeps_below hB07)) HM.out hgl
        clear q60 q61 q62
        go_wp2_with fail
        refine CS.mono ?_
        rintro e w8 ⟨hB8, v8, rfl, hF8⟩
        have hN8' := hF8.at
        obtain ⟨up, ug, rfl, hu, hu1, hu2⟩ := hN8'
        obtain ⟨A1, c1, rfl, -, -⟩ := hu1.form
        obtain ⟨A2, c2, rfl, -, -⟩ := hu2.form
        have hB08 := below_then hB07 hB07.size hB8
        obtain ⟨f0, c0, f1, c1', f2, c2', r4, g4⟩ := put25 (row_below r7 hB8) (.slice A1 (simpleP 65537 N a).pre.length c1) (.slice A2 (simpleP 65537 N a).gates.length c2) (.int .i64 (simpleP 65537 N a).out)
        clear hu1 hu2
        go_wp2_with fail
        have h4s := g4.size
        refine bodyPost_ret (results_row_tmp (p := 4) (u := 5) (ty := 25) rfl _ _ (w.heap.size + 1) 25 _ (0, 0) _ rfl r4 Try.underlying25 rfl (by kernel_rfl)) rfl ?_
        rw [HE.out]
        have hl7 := row_lt r7
        exact ⟨hB08.grown g4 hB08.size (fun r e => by injection e with e; omega), _, rfl, fun wF hsF hkF => hF8 wF (by omega) (fun k h1 h2 => (hkF k (by have := hB07.size; omega) (by omega)).trans (g4.block k h2 (by intro e; injection e with e; omega)))⟩
theorem Simple_any (v : Value) (N : PNet) (w : World) (h : NetAt w v N) (hl : litSum N.gates ≤ 4611686018427387904) (hgl : N.gates.length ≤ 1000000) :
    Calls Try.prog 13 #[v] w (CofPost w (cofactorP N [])) := by
  have hN := h
  obtain ⟨vp, vg, rfl, ho, hp, hgt⟩ := h
  obtain ⟨Ap, cp, rfl, hlp, hcp⟩ := hp.form
  obtain ⟨Ag, cg, rfl, hlg, hcg⟩ := hgt.form
  obtain ⟨w1, hw1, hc1, -, hz1, hB1, hrow1⟩ := new_block w #[.slice Ap N.pre.length cp, .slice Ag N.gates.length cg, .int .i64 N.out] 25
  obtain ⟨w2, hw2, hc2, hf2, hz2, hB2, hrow2⟩ := new_block w1 #[.slice none 0 0, .slice none 0 0, .int .i64 0] 25
  have hB02 := below_then hB1 hB1.size hB2
  have n0 : w2.cell? ⟨w.heap.size, 0, none⟩ = some (.slice Ap N.pre.length cp) := keeps_below hB2 _ _ (hc1 0 _ rfl)
  have n1 : w2.cell? ⟨w.heap.size, 1, none⟩ = some (.slice Ag N.gates.length cg) := keeps_below hB2 _ _ (hc1 1 _ rfl)
  have n2 : w2.cell? ⟨w.heap.size, 2, none⟩ = some (.int .i64 N.out) := keeps_below hB2 _ _ (hc1 2 _ rfl)
  rw [hz1] at hz2 hrow2
  have CC := Cofactor_any _ (.slice none 0 0) N [] w2 (hN.keep (keeps_below hB02)) (ints_none w2) hl hgl
  clear hc1 hc2 hf2
  generalize cofactorP N [] = r at CC ⊢
  go_enter Try.func13, Try.ntmps13
  go_wp2_with fail
  refine CC.mono ?_
  rintro e w3 ⟨hB3, v3, rfl, hF3⟩
  obtain ⟨up, ug, rfl, hu, hu1, hu2⟩ := hF3.at
  obtain ⟨A1, c1, rfl, -, -⟩ := hu1.form
  obtain ⟨A2, c2, rfl, -, -⟩ := hu2.form
  have hB03 := below_then hB02 hB02.size hB3
  obtain ⟨f0, c0, f1, c1', f2, c2', r4, g4⟩ := put25 (row_below hrow2 hB3) (.slice A1 r.1.pre.length c1) (.slice A2 r.1.gates.length c2) (.int .i64 r.1.out)
  have h4s := g4.size
  have h3s := hB3.size
  clear hu1 hu2
  go_wp2_with fail
  exact bodyPost_ret (results_row_tmp (p := 2) (u := 3) (ty := 25) rfl _ _ (w.heap.size + 1) 25 _ (0, 0) _ rfl r4 Try.underlying25 rfl (by kernel_rfl)) rfl ⟨hB03.grown g4 hB03.size (fun r e => by injection e with e; omega), _, rfl,
    fun wF hsF hkF => hF3 wF (by omega) (fun k h1 h2 => (hkF k (by omega) (by omega)).trans (g4.block k h2 (by intro e; injection e with e; omega)))⟩
end Go.Proofs.Ytnlobmepajakcaa
