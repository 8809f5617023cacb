/- What circ.Support does; the conditions: the net reads as data, with at most 2^62 literals and 1,000,000 gates. -/
import Derived.Test.YtnlobmepajakcaaRefS
import Derived.Test.YtnlobmepajakcaaComp
set_option linter.unusedVariables false
set_option linter.unusedSimpArgs false
namespace Go.Proofs.Ytnlobmepajakcaa
open Go.RowKit Go.Shelf

theorem info86 : (Try.prog.info? 86).map (·.size) = some 65537 := by kernel_rfl
theorem set_cells {w : World} {b t : Nat} {S : Nat → Bool} (h : SetAt w b t S) : ∃ cs : Array Value, w.heap[b]? = some (.cells cs t (0, 0)) ∧ cs.size = 65537 ∧ cs.all (·.oneCell') = true ∧ ∀ i, i < 65537 → cs[i]? = some (.bool (S i)) := by
  obtain ⟨cs, h1, h2, h3⟩ := h
  refine ⟨cs, h1, h2, ?_, h3⟩
  rw [Array.all_eq_true]
  intro i hi
  have := h3 i (by omega)
  rw [Array.getElem?_eq_getElem hi] at this
  injection this with this
  rw [this]; rfl
/-- A whole set is put over another. -/
theorem step_copy86 {ops : Array Oper} {rest : List Oper} {Q : Exit → Act → World → Prop} {a : Act} {w : World} {d i j : Nat} {ty ty2 : TypeId} {pos pos2 : String} {after after2 : Array Edge} {b c t t2 : Nat} {S T : Nat → Bool}
    (hd : d < a.tmps.size) (hdj : d ≠ j) (hi : a.tmps.getD i undef = .pointer (some ⟨b, 0, none⟩)) (hj : a.tmps.getD j undef = .pointer (some ⟨c, 0, none⟩)) (hS : SetAt w b t S) (hT : SetAt w c t2 T)
    (h : ∀ u w', SetAt w' c t2 S → w.grownBy w' (some c) → wpList Try.prog ops Q rest (a.put (some d) u) w') :
    wpList Try.prog ops Q ({ dst := some d, op := .load 86 (.tmp i), type := ty, pos, after, guard := none } :: { dst := none, op := .store 86 (.tmp j) (.tmp d), type := ty2, pos := pos2, after := after2, guard := none } :: rest) a w := by
  obtain ⟨cs, h1, h2, h3, h4⟩ := set_cells hS
  obtain ⟨cs2, k1, k2, k3, k4⟩ := set_cells hT
  refine wpList_load_row rfl 86 (.tmp i) rfl b hi t cs (0, 0) _ h1 u86 rfl (by rw [h2]; exact info86) ?_
  refine wpList_store_row rfl 86 (.tmp j) (.tmp d) rfl c cs ?_ ?_ t2 cs2 k1 (by rw [h2]; exact info86) (by rw [h2, k2]) h3 ?_
  · show (a.put (some d) (.agg cs)).tmps.getD j undef = _
    unfold Act.put
    simp only
    rw [Array.getD_eq_getD_getElem?, Array.getElem?_setIfInBounds_ne hdj, ← Array.getD_eq_getD_getElem?]
    exact hj
  · show (a.put (some d) (.agg cs)).tmps.getD d undef = _
    unfold Act.put
    simp only
    rw [Array.getD_eq_getD_getElem?, Array.getElem?_setIfInBounds_self_of_lt hd]
    rfl
  · exact h (.agg cs) (w.setRow c cs) ⟨cs, setRow_heap w c cs2 cs t2 (0, 0) k1, h2, h4⟩ ⟨rfl, rfl, rfl, by simp, fun k _ hk => setRow_other w c k cs (fun e => hk (by rw [e]))⟩
theorem addS_upd {S : Nat → Bool} {v : Int} (h1 : 1 ≤ v) (h2 : v ≤ 65536) : addS S v = upd S v.toNat true := by
  unfold addS
  by_cases h : addB S v = true
  · rw [if_pos h]
  · rw [if_neg h]
    have : S v.toNat = true := by
      cases hq : S v.toNat with
      | true => rfl
      | false => exact absurd (addB_iff.2 ⟨h1, h2, hq⟩) h
    funext i
    unfold upd
    split
    · rename_i e; rw [e]; exact this
    · rfl
theorem xb_no {n : Nat} {T : TypeId} {A : World} {k : Nat} (h : k < n) : ¬ XB n (fun _ => False) T A k := fun h' => by
  rcases h' with h' | ⟨h', _⟩
  · exact h'
  · omega
/-- A list in memory of its own, and an error. -/
def IntsOwn (r : List Int × Int) (w : World) (e : Ending) (w' : World) : Prop :=
  Below w.heap.size w w' ∧ ∃ v, e = .returned (.tuple #[v, .int .i64 r.2]) ∧ IntsAt w' v r.1 ∧ ∀ b, v.ownBlock = some b → w.heap.size ≤ b
theorem none_own {n b : Nat} (h : (Value.slice none 0 0).ownBlock = some b) : n ≤ b := by simp [Value.ownBlock] at h
set_option maxRecDepth 100000 in
set_option maxHeartbeats 1000000 in
theorem Support_own (v : Value) (N : PNet) (lit : Int) (w : World) (h : NetAt w v N) (h64 : I64 lit) (hl : litSum N.gates ≤ 4611686018427387904) (hgl : N.gates.length ≤ 1000000) :
    Calls Try.prog 28 #[v, .int .i64 lit] w (IntsOwn (supportP N lit) w) := by
  have hN := h
  obtain ⟨vp, vg, rfl, ho, hp, hgt⟩ := h
  obtain ⟨Ap, cp, rfl, hlp, hcp⟩ := hp.form
  obtain ⟨Ag, cg, rfl, hlg, hcg⟩ := hgt.form
  obtain ⟨w1, hw1, -, -, z1, hB1, q1⟩ := new_block w #[.slice Ap N.pre.length cp, .slice Ag N.gates.length cg, .int .i64 N.out] 25
  have rows : ∀ W, Below w1.heap.size w1 W → W.cell? ⟨w.heap.size, 0, none⟩ = some (.slice Ap N.pre.length cp) ∧ W.cell? ⟨w.heap.size, 1, none⟩ = some (.slice Ag N.gates.length cg) ∧ W.cell? ⟨w.heap.size, 2, none⟩ = some (.int .i64 N.out) := fun W hW =>
    ⟨cell_row (row_below q1 hW) rfl, cell_row (row_below q1 hW) rfl, cell_row (row_below q1 hW) rfl⟩
  have CM := May_any (.agg #[.slice Ap N.pre.length cp, .slice Ag N.gates.length cg, .int .i64 N.out]) N w1 (hN.keep (keeps_below hB1)) hl
  obtain ⟨a0, a1, a2⟩ := rows w1 (Below.refl _ _)
  refine callsIn_wide.1 (callsIn_of_wp_marks (n := 0) Try.func28 rfl trivial ?_ rfl)
  simp only [Try.ntmps28, List.size_toArray, List.length_cons, List.length_nil, Nat.reduceAdd, Nat.reduceSub, Array.replicate_succ, Array.replicate_zero, List.push_toArray, List.append_toArray, List.nil_append, List.cons_append]
  refine wpIn_wide.2 ?_
  cases hm : mayP N with
  | false =>
    rw [hm] at CM
    have e : supportP N lit = ([], 2) := by unfold supportP; rw [if_pos hm]
    have HE := hid e
    clear e hm
    go_wp2_with (go_at_call 36; refine CM.mono ?_; rintro e w2 ⟨rfl, hB2⟩)
    exact postM_ret (results_tmp2 rfl _ _ _) (by unfold IntsOwn; rw [HE.out]; exact ⟨below_then hB1 hB1.size hB2, _, rfl, ints_none _, fun b h => none_own h⟩)
  | true =>
    rw [hm] at CM
    have HM := hid hm
    obtain ⟨hpre, -, Sf, hSf, -⟩ := mayP_pre hm
    have hps : (prefFrom none 0 noS N.pre).isSome = true := by rw [hpre]; rfl
    have HPRE := hid hpre
    have hR := preS_R hps
    have hgv := hid (mayP_gates hm)
    clear hpre hm hps hSf
    go_wp2_with fail
    refine CM.mono ?_
    rintro e w2 ⟨rfl, hB2⟩
    obtain ⟨w3, hw3, hS3, hz3, hB3⟩ := new_set w2 86
    obtain ⟨w4, hw4, hS4, hz4, hB4⟩ := new_set w3 86
    obtain ⟨w5, hw5, hS5, hz5, hB5⟩ := new_set w4 86
    have hB02 := below_then hB1 hB1.size hB2
    have hB25 : Below w2.heap.size w2 w5 := below_then (below_then hB3 hB3.size hB4) (by omega) hB5
    have hS35 := (hS3.below hB4).below hB5
    have hS45 := hS4.below hB5
    rw [hz3] at hS45 hz4
    rw [hz4] at hS5 hz5
    have b0 := (rows w5 (below_then hB2 hB2.size hB25)).1
    have CP := prefix_any w2.heap.size 86 noS _ N.pre w5 w hp (below_then hB02 hB02.size hB25) hB02.size hS35
    clear CM a0 a1 a2 hS3 hS4 hB3 hB4 hB5
    go_wp2_with fail
    refine CP.mono ?_
    rintro e w6 ⟨rfl, hG6, S6, hS66, hSS⟩
    obtain rfl : S6 = preS N := hSS _ HPRE.out
    have hS76 := hS45.kept hG6 (by intro e; have := Option.some.inj e; omega)
    have hS86 := hS5.kept hG6 (by intro e; have := Option.some.inj e; omega)
    have hB26 : Below w2.heap.size w2 w6 := hB25.grown hG6 (by omega) (fun r e => by have := Option.some.inj e; omega)
    clear CP hS35 hS45 hS5 hSS b0
    go_wp2_with ((with_reducible refine step_copy86 ?_ ?_ ?_ ?_ hS66 hS76 (fun u19 w7 hS77 hG7 => ?_)); (simp only [List.size_toArray, List.length_cons, List.length_nil]; omega); decide; rfl; rfl; have hS67 := hS66.kept hG7 (by intro e; have e' : w2.heap.size + 1 = w2.heap.size := Option.some.inj e; omega); have hS87 := hS86.kept hG7 (by intro e; have e' : w2.heap.size + 1 = w2.heap.size + 1 + 1 := Option.some.inj e; omega); have hB27 : Below w2.heap.size w2 w7 := hB26.grown hG7 hB26.size (fun r e => by have := Option.some.inj e; omega); have b1 := (rows w7 (below_then hB2 hB2.size hB27)).2.1; clear hS66 hS76 hS86 hG7 hG6 hB26 hB25)
    go_loopg [10, 23] N.gates.length (fun gg _ s23 wr => ∃ (j : Nat) (S : Nat → Bool), j ≤ N.gates.length ∧ N.gates.length - j ≤ gg ∧ s23 = .int .i64 j ∧ Below w2.heap.size w2 wr ∧ SetAt wr w2.heap.size 86 (preS N) ∧ SetAt wr (w2.heap.size + 1) 86 S ∧ SetAt wr (w2.heap.size + 1 + 1) 86 noS ∧ Rem (usedG (preS N) N.gates) (usedG S (N.gates.drop j)))
    case atStart => exact ⟨0, _, Nat.zero_le _, by omega, rfl, hB27, hS67, hS77, hS87, ⟨rfl⟩⟩
    case round =>
      clear hB27 hS67 hS77 hS87 b1
      obtain ⟨j, S, hj, hg, rfl, hB, hS6, hS7, hS8, HA⟩ := hrel
      have hB1r := below_then hB2 hB2.size hB
      have hB0r := below_then hB02 hB02.size hB
      obtain ⟨b0, b1, b2⟩ := rows wr hB1r
      by_cases hlt : j < N.gates.length
      · obtain ⟨g, hgx, hgm, hgd⟩ := nth hlt
        obtain ⟨bg, offg, vi, eA, hc0, hc1, hc2, hi, hg64, hkd0, hkd1⟩ := (hgt.keep (keeps_below hB0r)).at_ j g hgx
        subst eA
        obtain ⟨Ai, ci, rfl, hli, hci⟩ := hi.form
        have hltz : (j : Int) < (N.gates.length : Int) := by omega
        obtain ⟨hsh, hg1, hg2⟩ := hgv.out g hgm
        obtain ⟨wN, hwN, hcN, -, hzN, hBN, hrN⟩ := new_block wr #[.int .i64 g.var, .int .u8 g.kind, .slice Ai g.ins.length ci] 70
        have x0 : wN.cell? ⟨wr.heap.size, 0, none⟩ = some (.int .i64 g.var) := hcN 0 _ rfl
        have CA := add_any (w2.heap.size + 1) 86 S g.var wN (hS7.below hBN)
        rw [addS_upd hg1 hg2] at CA
        have e : usedG (preS N) N.gates = usedG (upd S g.var.toNat true) (N.gates.drop (j + 1)) := by rw [HA.out, hgd]; rfl
        have HE := hid e
        have HS := hid (And.intro (hS6.below hBN) (hS8.below hBN))
        have hlt8 := hS8.lt
        have hBNr := below_then hB hB.size hBN
        clear hgx hgm hgd hi hg64 hkd0 hkd1 hsh hg1 hg2 hS6 hS7 hS8 e hcN hrN hBN
        go_wp2_with (first | (go_at_call 65; refine CA.mono ?_; rintro e w8 ⟨rfl, hS78, hG8⟩) | fail)
        go_roundg (N.gates.length - (j + 1))
        case measure => omega
        case rel => exact ⟨j + 1, _, by omega, by omega, by go_num, hBNr.grown hG8 hBNr.size (fun r e => by have := Option.some.inj e; omega), HS.out.1.kept hG8 (by intro e; have e' : w2.heap.size + 1 = w2.heap.size := Option.some.inj e; omega), hS78, HS.out.2.kept hG8 (by intro e; have e' : w2.heap.size + 1 = w2.heap.size + 1 + 1 := Option.some.inj e; omega), ⟨HE.out⟩⟩
      · have hltz : ¬ (j : Int) < (N.gates.length : Int) := by omega
        have e : usedG (preS N) N.gates = S := by rw [HA.out, List.drop_eq_nil_of_le (by omega)]; rfl
        have CK := has_any (w2.heap.size + 1) 86 S lit wr hS7
        cases hk : S (absN lit) with
        | false =>
          rw [hk] at CK
          have e2 : supportP N lit = ([], 6) := by unfold supportP; rw [if_neg (by rw [HM.out]; simp), e, if_pos hk]
          have HE := hid e2
          clear e e2 hk HA
          go_wp2_with (first | (go_at_call 45; refine CK.mono ?_; rintro e w8 ⟨rfl, q, rfl⟩) | fail)
          exact postM_ret (results_tmp2 rfl _ _ _) (by unfold IntsOwn; rw [HE.out]; exact ⟨below_drewN hB0r q, _, rfl, ints_none _, fun b h => none_own h⟩)
        | true =>
          rw [hk] at CK
          have e2 : supportP N lit = (supL (reachT (upd noS (absN lit) true) N.gates.reverse) (preS N), 0) := by unfold supportP; rw [if_neg (by rw [HM.out]; simp), e, if_neg (by rw [hk]; simp)]
          have HE := hid e2
          clear e e2 hk HA
          have CR := fun W => reached_any Ag N.gates.length cg lit (w2.heap.size + 1 + 1) W
          go_wp2_with (first | (go_at_call 45; refine CK.mono ?_; rintro e w8 ⟨rfl, q, rfl⟩) | fail)
          have hBE : Below w2.heap.size w2 (wr.drewN q) := below_drewN hB q
          have hS6E := hS6.drewN q
          have hS8E := hS8.drewN q
          clear hS6 hS7 hS8 hB hB1r hB0r b0 b1 b2 CK
          generalize wr.drewN q = WE at hBE hS6E hS8E ⊢
          have hB1E := below_then hB2 hB2.size hBE
          have hB0E := below_then hB02 hB02.size hBE
          obtain ⟨b0, b1, b2⟩ := rows WE hB1E
          have hltE := hS8E.lt
          go_wp2_with (first | (go_at_call 66; refine (CR _).mono ?_; rintro e WL ⟨rfl, hBRL, zL, l0, l1, l2⟩) | fail)
          have hS6L := hS6E.below hBRL
          have hS8L := hS8E.below hBRL
          have hB2L := below_then hBE hBE.size hBRL
          have hB0L := below_then hB02 hB02.size hB2L
          have hb2s := hBE.size
          have h02s := hB02.size
          clear hS6E hS8E hBE hB1E hB0E b0 b1 b2 CR hBRL
          obtain ⟨es, hes⟩ := gates_list hgt
          have hK0 : ∀ w', KeepX WL.heap.size (fun k => False ∨ k = w2.heap.size + 1 + 1) 0 WL w' → Keeps w w' := fun w' hk => keeps_below (hk.toBelow hB0L (by omega) (fun k h => by rcases h with h | h; exact h.elim; omega))
          have SQ := reached_seq (Bg := WE.heap.size) (Bl := WE.heap.size + 1) (Bs := WE.heap.size + 2) (bs := w2.heap.size + 1 + 1) (t := 86) (n₀ := WL.heap.size) (X := fun _ => False) (T := 0) (by decide) (by decide) (by decide) (A := Ag) (c := cg) (gates := N.gates) (es := es) (lit := lit) (S := noS) (w := WL) (w0 := w)
            (by omega) l0 l1 l2 hS8L (xb_no (by omega)) (xb_no (by omega)) (xb_no (by omega)) (xb_no (by omega)) (by omega) (by omega) (by omega) (fun k h => h.elim) hes hK0 (fun g hg => by have := hgv.out g hg; omega)
          have eT : reachS (upd noS (absN lit) true) es.reverse = reachT (upd noS (absN lit) true) N.gates.reverse := by rw [reachS_map, List.map_reverse, es_gates hes]
          rw [eT] at SQ
          obtain ⟨T, hT⟩ : ∃ T, reachT (upd noS (absN lit) true) N.gates.reverse = T := ⟨_, rfl⟩
          rw [hT] at SQ HE
          obtain ⟨es0, hes0⟩ : ∃ es0, reachL (upd noS (absN lit) true) es.reverse = es0 := ⟨_, rfl⟩
          rw [hes0] at SQ
          clear l0 l1 l2 hK0 eT hT hes0 hes
          refine wp_rangeFunc_R (gf := 96) (lb := #[.pointer (some ⟨WE.heap.size + 2, 0, none⟩), .pointer (some ⟨WE.heap.size + 1, 0, none⟩), .pointer (some ⟨WE.heap.size, 0, none⟩)]) (encs := encG) (Kp := KeepX WL.heap.size (fun _ => False) 0) (row0 := some (w2.heap.size + 1 + 1)) (xs := es0) (Fin := fun W => SetAt W (w2.heap.size + 1 + 1) 86 T) (w0 := WL) rfl (enters_of Try.func96 (by kernel_rfl) rfl)
            SQ (fun W l o h1 h2 => h2.heap (World.putObj_heap_other (by omega))) (fun r e => by have := Option.some.inj e; omega) KeepX.trans KeepX.record (Below.refl _ _) (fun x => rfl)
            (fun pre W => KeepX WL.heap.size (fun k => k = w2.heap.size + 1 + 1) 0 WL W)
            (fun _ _ _ => False)
            (fun s A B row hs hG hr => hs.grown hG (fun r e => by
              rcases hr r e with h | ⟨h, _⟩
              · exact .inl (.inl (Option.some.inj h).symm)
              · exact .inr h))
            (fun c s A B row hs hG hr => hs) (KeepX.refl _ _ _ _) ?round ?done ?stop
          case stop =>
            rintro D c pre W _ _ h _
            exact h.elim
          case round =>
            rintro l pre ⟨i, g, vi⟩ rest W K hxs hl hI hK
            dsimp only [encG]
            gi_wp2
            refine hK _ _ ((KeepX.refl WL.heap.size (fun _ => False) 0 W).from _ (fun k h => h.elim)) (KeepX.refl _ _ _ _) hI (fun Wb hgb hol hr hIb => ?_)
            gi_wp2
            exact ⟨(KeepX.refl WL.heap.size (fun _ => False) 0 Wb).from _ (fun k h => h.elim), KeepX.refl _ _ _ _, hIb⟩
          case done =>
            rintro D W6 hD hKX hS8F hdef
            have kL : ∀ k, k < WL.heap.size → k ≠ w2.heap.size + 1 + 1 → W6.heap[k]? = WL.heap[k]? := fun k h1 h2 => hKX.block k h1 (fun h => by
              rcases h with h | ⟨h, _⟩
              · exact h2 h
              · omega)
            have hS6F : SetAt W6 w2.heap.size 86 (preS N) := hS6L.heap (kL _ hS6L.lt (by omega))
            have hB06 : Below w.heap.size w W6 := hKX.toBelow hB0L (by omega) (fun k h => by omega)
            have hs6 := hKX.size
            clear hKX kL hS6L hS8L SQ hB2L hB0L
            go_wp2_with fail
            go_loopg [11, 12, 40] 65537 (fun gg s11 _ s40 wr => ∃ (k : Nat) (out : List Int) (Ao : Option Addr) (co : Nat), k ≤ 65537 ∧ 65537 - k ≤ gg ∧ s40 = .int .i64 (k : Int) ∧ s11 = .slice Ao out.length co ∧ Below W6.heap.size W6 wr ∧ wr.ownsRow W6.heap.size 3 1 (.slice Ao out.length co) out.length (nums out) ∧ out.length ≤ k ∧ Aside (out = supTo T (preS N) k))
            case atStart => exact ⟨0, [], none, 0, by omega, by omega, rfl, rfl, Below.refl _ _, World.ownsRow_nil _ _ _ _, by simp, rfl⟩
            case round =>
              obtain ⟨k, out, Ao, co, hk, hgk, rfl, rfl, hBk, hO, hlo, hout⟩ := hrel
              have hS8k := hS8F.below hBk
              have hS6k := hS6F.below hBk
              by_cases hlt : k < 65537
              · have hltz : (k : Int) < 65537 := by omega
                have c8 := hS8k.cell k hlt
                have c6 := hS6k.cell k hlt
                have hst := supTo_succ T (preS N) k
                have hout' : out = supTo T (preS N) k := hout
                rw [← hout'] at hst
                have hbk := hBk.size
                have HST := hid hst
                clear hS8k hS6k hst hout hout' hlt
                generalize preS N k = y at c6 HST
                generalize T k = x at c8 HST
                cases x with
                | false =>
                  go_wp2_with fail
                  go_roundg (65537 - (k + 1))
                  case measure => omega
                  case rel => exact ⟨k + 1, out, Ao, co, by omega, by omega, by go_num, rfl, hBk, hO, by omega, by have := HST.out; simp at this; exact this.symm⟩
                | true =>
                  cases y with
                  | false =>
                    go_wp2_with fail
                    go_roundg (65537 - (k + 1))
                    case measure => omega
                    case rel => exact ⟨k + 1, out, Ao, co, by omega, by omega, by go_num, rfl, hBk, hO, by omega, by have := HST.out; simp at this; exact this.symm⟩
                  | true =>
                    go_wp2_with (at_builtin; refine append_one W6.heap.size rfl _ _ 26 3 (.int .i64 0) 1 8 rfl Try.underlying26 info3 rfl (by decide) (by decide) (.slice Ao out.length co) out.length (nums out) #[.int .i64 (k : Int)] rfl rfl rfl (by intro u hu; simp at hu; subst hu; rfl) hO hbk (by omega) ?_; intro g' cap w8 hO8 hG8 hg8 hbg8 hlt8)
                    rw [nums_snoc] at hO8
                    go_roundg (65537 - (k + 1))
                    case measure => omega
                    case rel => exact ⟨k + 1, out ++ [(k : Int)], some ⟨g', 0, none⟩, cap, by omega, by omega, by go_num, by simp, hBk.grown hG8 hBk.size (fun r e => (hO.lt r e).1), by simpa using hO8, by simp; omega, by have := HST.out; simp at this; exact this.symm⟩
              · have hltz : ¬ (k : Int) < 65537 := by omega
                have hk65 : k = 65537 := by omega
                have hout' : out = supTo T (preS N) k := hout
                rw [hk65] at hout'
                have hI := ints_of_own2 hO (by rw [hout']; exact supTo_64 _ _ _ (Nat.le_refl _))
                have hdk := row_below hdef hBk
                have hDlt := row_lt hdef
                have hBW := below_then hB06 hB06.size hBk
                have hOL : ∀ b, (Value.slice Ao out.length co).ownBlock = some b → w.heap.size ≤ b := fun b hb => by have := (hO.lt b hb).1; have := hB06.size; omega
                have hDO : ∀ b, (Value.slice Ao out.length co).ownBlock = some b → b ≠ D := fun b hb e => by have := (hO.lt b hb).1; omega
                have HI := hid (And.intro hI hout')
                clear hI hout hout' hk65 hS8k hS6k hO
                go_wp2_with fail
                refine ⟨by simp, .inl ⟨_, _, rfl, run_takeDeferred hdk, ?_⟩⟩
                refine ⟨_, results_tmp2 rfl _ _ _, ?_⟩
                unfold IntsOwn
                rw [HE.out]
                refine ⟨hBW.grown (grownBy_putObj' _ D (.deferred none)) hBW.size (fun r e => by have := Option.some.inj e; omega), _, rfl, ?_, hOL⟩
                have h2 := HI.out.1.keptP (grownBy_putObj' wr D (.deferred none)) (fun _ b hb e => hDO b hb (Option.some.inj e).symm)
                rw [show (supL T (preS N), (0 : Int)).1 = supTo T (preS N) 65537 from rfl, ← HI.out.2]
                exact h2
theorem Support_any (v : Value) (N : PNet) (lit : Int) (w : World) (h : NetAt w v N) (h64 : I64 lit) (hl : litSum N.gates ≤ 4611686018427387904) (hgl : N.gates.length ≤ 1000000) :
    Calls Try.prog 28 #[v, .int .i64 lit] w (IntsPost (supportP N lit) w) :=
  (Support_own v N lit w h h64 hl hgl).mono fun e w' h => ⟨h.1, h.2.choose, h.2.choose_spec.1, h.2.choose_spec.2.1⟩
end Go.Proofs.Ytnlobmepajakcaa
