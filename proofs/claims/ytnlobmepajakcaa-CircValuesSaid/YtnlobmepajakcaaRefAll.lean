/- What the reference's all does: the values of all variables; the conditions: the net is valid and the list is normal. -/
import Derived.Test.YtnlobmepajakcaaRefG
set_option linter.unusedVariables false
set_option linter.unusedSimpArgs false
namespace Go.Proofs.Ytnlobmepajakcaa
open Go.RowKit Go.Shelf

theorem norm_pos : ∀ (a : List Int) (last : Int), 0 ≤ last → normFrom last a = true → ∀ l ∈ a, 1 ≤ absN l
  | [], _, _, _, l, hl => by cases hl
  | x :: a, last, h0, h, l, hl => by
    unfold normFrom at h
    split at h
    · cases h
    · rename_i hx
      rcases List.mem_cons.1 hl with rfl | hl
      · have := absI_N l; omega
      · exact norm_pos a (absI x) (by have := absI_N x; omega) h l hl
set_option maxRecDepth 100000 in
set_option maxHeartbeats 4000000 in
theorem allR_any (v va : Value) (N : PNet) (a : List Int) (w : World) (h : NetAt w v N) (ha : IntsAt w va a) (hM : mayP N = true) (hn : normFrom 0 a = true) :
    Calls Try.prog 64 #[v, va] w fun e w' => ∃ b, e = .returned (.slice (some ⟨b, 0, none⟩) 65537 65537) ∧ SetAt w' b 4 (valsP N a) ∧ Below w.heap.size w w' := by
  obtain ⟨vp, vg, rfl, ho, hp, hgt⟩ := h
  obtain ⟨Ap, cp, rfl, hlp, hcp⟩ := hp.form
  obtain ⟨Ag, cg, rfl, hlg, hcg⟩ := hgt.form
  obtain ⟨Aa, ca, rfl, hla, hca⟩ := ha.form
  have hpos := norm_pos a 0 (by omega) hn
  obtain ⟨hpr, -, -⟩ := mayP_pre hM
  have hps : (prefFrom none 0 noS N.pre).isSome = true := by rw [hpr]; rfl
  obtain ⟨hr1, hr2⟩ := pre_rng hps
  have hne := alt_ne (preS_of hps).1
  have hset : setOf (varsOf N.pre) = preS N := by funext i; rw [preS_iff hps]; rfl
  have hgv := mayP_gates hM
  have hgl := (may_lits hM).1
  have HGV := hid hgv
  have HGL := hid hgl
  have HPOS := hid hpos
  obtain ⟨w1, hw1, -, -, z1, hB1, q1⟩ := new_block w #[.slice Ap N.pre.length cp, .slice Ag N.gates.length cg, .int .i64 N.out] 25
  have hmk := make47 w1
  have hV0 := set_made w1
  have hB12 : Below w1.heap.size w1 (w1.alloc (.cells (madeCells #[Value.bool false] 65537) 4)) := (Below.refl _ w1).alloc (Nat.le_refl _) _
  have hz2 : (w1.alloc (.cells (madeCells #[Value.bool false] 65537) 4)).heap.size = w1.heap.size + 1 := World.size_alloc _ _
  rw [z1] at hmk hV0 hz2
  revert hmk hV0 hB12 hz2
  generalize w1.alloc (.cells (madeCells #[Value.bool false] 65537) 4) = w2
  intro hmk hV0 hB12 hz2
  have rows : ∀ W, Below w1.heap.size w1 W → W.cell? ⟨w.heap.size, 0, none⟩ = some (.slice Ap N.pre.length cp) ∧ W.cell? ⟨w.heap.size, 1, none⟩ = some (.slice Ag N.gates.length cg) := fun W hW =>
    ⟨cell_row (row_below q1 hW) rfl, cell_row (row_below q1 hW) rfl⟩
  obtain ⟨a0, -⟩ := rows w2 hB12
  have hB02 := below_then hB1 hB1.size hB12
  have CVs := Vars_any _ N.pre w2 (hp.keep (keeps_below hB02)) hne (by omega)
  clear hpr hps hgv hgl hpos hne hM hn
  go_enter Try.func64, Try.ntmps64
  go_wp2_with fail
  refine CVs.mono ?_
  rintro e w3 ⟨vv, rfl, hOv, hB3⟩
  obtain ⟨Av, cv, rfl⟩ := own_shape hOv
  have hIv := ints_of_own hOv (fun y hy => by have := hr1 y hy; unfold I64; omega) (by omega)
  have CMk := marks_any _ (varsOf N.pre) w3 hIv (fun x hx => by have := hr1 x hx; omega)
  rw [hset] at CMk
  clear CVs hmk a0 hOv hIv hset hr1 hr2
  go_wp2_with fail
  refine CMk.mono ?_
  rintro e w4 ⟨bm, rfl, hSm, hB4, hbm⟩
  have hB24 := below_then hB3 hB3.size hB4
  have hB14 := below_then hB12 hB12.size hB24
  have hV4 := hV0.below hB24
  have hlm := hSm.lt
  have hs3 := hB3.size
  have hs4 := hB24.size
  clear CMk hB3 hB4 hV0
  go_wp2_with fail
  go_loopg [7] a.length (fun gg s7 wr => ∃ (j : Nat) (V : Nat → Bool), j ≤ a.length ∧ a.length - j ≤ gg ∧ s7 = .int .i64 j ∧ w4.grownBy wr (some (w.heap.size + 1)) ∧ SetAt wr (w.heap.size + 1) 4 V ∧ Rem (valsA (preS N) noS a) (valsA (preS N) V (a.drop j)))
  case atStart => exact ⟨0, noS, Nat.zero_le _, by omega, rfl, World.grownBy.refl _ _, hV4, ⟨rfl⟩⟩
  case round =>
    clear hV4
    obtain ⟨j, V, hj, hg, rfl, hG, hV, HA⟩ := hrel
    have hB1r : Below w1.heap.size w1 wr := hB14.grown hG hB14.size (fun r e => by injection e with e; omega)
    have hB0r := below_then hB1 hB1.size hB1r
    have hSr := hSm.kept hG (by intro e; injection e with e; omega)
    by_cases hlt : j < a.length
    · obtain ⟨x, hx, hxm, hd⟩ := nth hlt
      obtain ⟨ba, offa, rfl, hcx, hx64⟩ := (ha.keep (keeps_below hB0r)).at_ j x hx
      have hltz : (j : Int) < (a.length : Int) := by omega
      have hxp := HPOS.out x hxm
      have hq := absN_lt x
      have CA := fun p => (absR_any x (since wr p) hx64).mono (fun e w' (h : e = _ ∧ w' = _) => (⟨h.1, by rw [h.2]; exact Below.refl _ _⟩ : e = _ ∧ Below (since wr p).heap.size (since wr p) w'))
      rw [absR_eq hxp] at CA
      have g1 := fun p => cell_since hcx p
      have g2 := fun p => (hSr.below (since_below wr p)).cell (absN x) hq
      have hA2 : valsA (preS N) noS a = valsA (preS N) (upd V (absN x) (decide (0 < x) && preS N (absN x))) (a.drop (j + 1)) := by rw [HA.out, hd]; rfl
      have HA2 := hid hA2
      clear hA2 hd hx hxm hxp HA
      revert CA g2 hq HA2
      generalize absN x = q
      generalize preS N q = y
      intro hq CA g2 HA2
      by_cases hx0 : 0 < x
      · go_wp2_with fail
        refine region_tail 21 (by kernel_rfl) (by kernel_rfl) ?_
        simp only [List.take_succ_cons, List.take_zero, List.drop_succ_cons, List.drop_zero]
        repeat (first | go_big_quiet_step ((go_at_call 30; exact calls_since (CA _))) | quiet_step ((go_at_call 30; exact calls_since (CA _))))
        refine wpQuiet_nil ?_
        rintro W ⟨pw, hW⟩
        have hBW : Below wr.heap.size wr W := by rw [hW]; exact since_below wr pw
        have hVW := hV.below hBW
        have hcW := hVW.cell q hq
        have hfW := hVW.free q
        have hGW := hG.trans (grown_of_below hBW (some (w.heap.size + 1)))
        have HVW := hid hVW
        clear hW hV hVW CA
        go_wp2_with fail
        go_roundg (a.length - (j + 1))
        case measure => omega
        case rel => exact ⟨j + 1, _, by omega, by omega, by go_num, hGW.trans (grown_setCell _ _ _), HVW.out.store q _, ⟨by rw [HA2.out, decide_eq_true hx0, Bool.true_and]⟩⟩
      · have hx1 : decide (0 < x) = false := decide_eq_false hx0
        go_wp2_with fail
        refine region_tail 21 (by kernel_rfl) (by kernel_rfl) ?_
        simp only [List.take_succ_cons, List.take_zero, List.drop_succ_cons, List.drop_zero]
        repeat (first | go_big_quiet_step ((go_at_call 30; exact calls_since (CA _))) | quiet_step ((go_at_call 30; exact calls_since (CA _))))
        refine wpQuiet_nil ?_
        rintro W ⟨pw, hW⟩
        have hBW : Below wr.heap.size wr W := by rw [hW]; exact since_below wr pw
        have hVW := hV.below hBW
        have hcW := hVW.cell q hq
        have hfW := hVW.free q
        have hGW := hG.trans (grown_of_below hBW (some (w.heap.size + 1)))
        have HVW := hid hVW
        clear hW hV hVW CA
        go_wp2_with fail
        go_roundg (a.length - (j + 1))
        case measure => omega
        case rel => exact ⟨j + 1, _, by omega, by omega, by go_num, hGW.trans (grown_setCell _ _ _), HVW.out.store q _, ⟨by rw [HA2.out, show decide (0 < x) = false from decide_eq_false (by omega), Bool.false_and]⟩⟩
    · have hltz : ¬ (j : Int) < (a.length : Int) := by omega
      have e : valsA (preS N) noS a = V := by rw [HA.out, List.drop_eq_nil_of_le (by omega)]; rfl
      obtain ⟨-, c1⟩ := rows wr hB1r
      have HE := hid e
      clear e HA
      clear c1
      go_wp2_with fail
      obtain ⟨WA, rfl⟩ : ∃ WA, WA = wr := ⟨_, rfl⟩
      go_loopg [8] N.gates.length (fun gg s8 wr => ∃ (i : Nat) (V' : Nat → Bool), i ≤ N.gates.length ∧ N.gates.length - i ≤ gg ∧ s8 = .int .i64 i ∧ WA.grownBy wr (some (w.heap.size + 1)) ∧ SetAt wr (w.heap.size + 1) 4 V' ∧ Rem (valsP N a) (valsG V' (N.gates.drop i)))
      case atStart => exact ⟨0, V, Nat.zero_le _, by omega, rfl, World.grownBy.refl _ _, hV, ⟨by unfold valsP; rw [HE.out]; rfl⟩⟩
      case round =>
        clear hV
        obtain ⟨i, V', hi', hgi, rfl, hG2, hV, HA2⟩ := hrel
        have hB1q : Below w1.heap.size w1 wr := hB1r.grown hG2 hB1r.size (fun r e => by injection e with e; omega)
        have hB0q := below_then hB1 hB1.size hB1q
        obtain ⟨-, c1⟩ := rows wr hB1q
        by_cases hlt2 : i < N.gates.length
        · obtain ⟨g, hgx, hgm, hgd⟩ := nth hlt2
          obtain ⟨bg, offg, vi, eA, hc0, hc1, hc2, hi, h64, hkd0, hkd1⟩ := (hgt.keep (keeps_below hB0q)).at_ i g hgx
          subst eA
          obtain ⟨Ai, ci, rfl, hli, hci⟩ := hi.form
          have hltz2 : (i : Int) < (N.gates.length : Int) := by omega
          obtain ⟨hsh, hg1, hg2⟩ := HGV.out g hgm
          obtain ⟨m, hm⟩ : ∃ m : Nat, g.var = m := Int.eq_ofNat_of_zero_le (by omega)
          have hm1 : m < 65537 := by omega
          rw [hm] at hc0
          have CG := fun p => gateR_any (w.heap.size + 1) 4 V' (m : Int) g.kind (.slice Ai g.ins.length ci) g.ins (since wr p) (hV.below (since_below wr p)) (hi.keep (keeps_below (since_below wr p))) hsh (HGL.out g hgm)
          have s1 := fun p => cell_since c1 p
          have t0 := fun p => cell_since hc0 p
          have t1 := fun p => cell_since hc1 p
          have t2 := fun p => cell_since hc2 p
          have hA3 : valsP N a = valsG (upd V' m (gateV V' g.kind g.ins)) (N.gates.drop (i + 1)) := by rw [HA2.out, hgd, valsG, hm, Int.toNat_natCast]
          have HA3 := hid hA3
          clear hA3 hgx hgd hgm hi hm hsh hg1 hg2
          go_wp2_with fail
          refine region_tail 14 (by kernel_rfl) (by kernel_rfl) ?_
          simp only [List.take_succ_cons, List.take_zero, List.drop_succ_cons, List.drop_zero]
          repeat (first | go_big_quiet_step ((go_at_call 95; exact calls_since (CG _))) | quiet_step ((go_at_call 95; exact calls_since (CG _))))
          refine wpQuiet_nil ?_
          rintro W ⟨pw, hW⟩
          have hBW : Below wr.heap.size wr W := by rw [hW]; exact since_below wr pw
          have hVW := hV.below hBW
          have hcW := hVW.cell m hm1
          have hfW := hVW.free m
          have hGW := hG2.trans (grown_of_below hBW (some (w.heap.size + 1)))
          have HVW := hid hVW
          clear hW hV hVW CG s1 t0 t1 t2
          go_wp2_with fail
          go_roundg (N.gates.length - (i + 1))
          case measure => omega
          case rel => exact ⟨i + 1, _, by omega, by omega, by go_num, hGW.trans (grown_setCell _ _ _), HVW.out.store m _, ⟨HA3.out⟩⟩
        · have hltz2 : ¬ (i : Int) < (N.gates.length : Int) := by omega
          have e : valsP N a = V' := by rw [HA2.out, List.drop_eq_nil_of_le (by omega)]; rfl
          have HE2 := hid e
          have HV := hid hV
          clear e HA2 hV
          go_wp2_with fail
          go_ret
          exact ⟨_, rfl, by rw [HE2.out]; exact HV.out, hB0q⟩
end Go.Proofs.Ytnlobmepajakcaa
