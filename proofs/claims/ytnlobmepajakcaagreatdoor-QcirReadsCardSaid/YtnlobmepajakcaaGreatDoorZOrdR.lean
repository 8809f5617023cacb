/- What Order of the document's reader does, with the literals read in a world before it; the conditions of OrderR_any. -/
import Derived.Test.YtnlobmepajakcaaGreatDoorZOrdK
import Derived.Test.YtnlobmepajakcaaGreatDoorZRefO
set_option linter.unusedVariables false
set_option linter.unusedSimpArgs false
namespace Go.Proofs.YtnlobmepajakcaaGreatDoor
open Go.RowKit Go.Shelf
set_option maxRecDepth 100000 in
set_option maxHeartbeats 2000000 in
theorem OrderR_K (va vg : Value) (ins : List Int) (gates : List PGate) (w w0 : World) (ha : IntsAt w va ins) (hgw : GatesAt w0 vg gates) (hk0 : Keeps w0 w) (hl : litSum gates ≤ 200000) (hgl : gates.length ≤ 100000) :
    Calls Tryz.prog 67 #[va, vg] w (GatesPostK w0 (orderP ins gates) w) := by
  have hg0 : GatesAt w vg gates := hgw.keep hk0
  obtain ⟨Aa, ca, rfl, hla, hca⟩ := ha.form
  obtain ⟨Ag, cg, rfl, hlg, hcg⟩ := hg0.form
  have CLo := loose_any (.slice Aa ins.length ca) (.slice Ag gates.length cg) ins gates w ha hg0
  go_enter Tryz.func67, Tryz.ntmps67
  cases hlo : looseP ins gates with
  | false =>
    rw [hlo] at CLo
    have e : orderP ins gates = ([], 2) := by rw [order_eq, if_pos hlo]
    have HE := hid e
    clear e hlo
    go_wp2_with (first | (go_at_call 110; refine CLo.mono ?_; rintro e w1 ⟨rfl, hB1⟩) | fail)
    go_ret2
    unfold GatesPostK
    rw [HE.out]
    exact ⟨hB1, _, rfl, gatesK_none _ _ _⟩
  | true =>
    rw [hlo] at CLo
    obtain ⟨f1, f2, f3⟩ := loose_facts hlo
    have e : orderP ins gates = match ordGo gates.length (setOf ins) [] gates with | none => ([], 50) | some out => (out, 0) := by rw [order_eq, if_neg (by rw [hlo]; simp), if_neg (by omega)]; rfl
    have HE := hid e
    have HF := hid (And.intro f2 f3)
    clear e hlo f2 f3
    go_wp2_with (first | (go_at_call 110; refine CLo.mono ?_; rintro e w1 ⟨rfl, hB1⟩) | fail)
    clear CLo
    go_loopg [6, 7] gates.length (fun gg s6 s7 wr => ∃ (j : Nat), j ≤ gates.length ∧ gates.length - j ≤ gg ∧ s7 = .int .i64 (j : Int) ∧ s6 = .int .i64 (litSum (gates.take j) : Int) ∧ Below w.heap.size w wr)
    case atStart => exact ⟨0, Nat.zero_le _, by omega, rfl, rfl, hB1⟩
    case round =>
      clear hB1
      obtain ⟨j, hj, hg, rfl, rfl, hB⟩ := hrel
      by_cases hlt : j < gates.length
      · obtain ⟨g, hgx, hgm, hgd⟩ := nth hlt
        obtain ⟨bg, offg, vi, rfl, hc0, hc1, hc2, hi, -⟩ := (hg0.keep (keeps_below hB)).at_ j g hgx
        obtain ⟨Ai, ci, rfl, hli, hci⟩ := hi.form
        have hltz : (j : Int) < (gates.length : Int) := by omega
        have htk := litSum_take hgx
        have htl : litSum (gates.take (j + 1)) ≤ litSum gates := by
          have e : litSum gates = litSum (gates.take (j + 1)) + litSum (gates.drop (j + 1)) := by rw [← litSum_append, List.take_append_drop]
          omega
        obtain ⟨s, hs⟩ : ∃ s, litSum (gates.take j) = s := ⟨_, rfl⟩
        rw [hs] at htk ⊢
        have hw1' : IntKind.i64.wrap ((s : Int) + (g.ins.length : Int)) = ((s + g.ins.length : Nat) : Int) := by rw [IntWalk.i64_in _ (by omega)]; omega
        have HTK := hid htk
        clear hgx hgm hgd htk htl hs hi
        go_wp2_with fail
        go_roundg (gates.length - (j + 1))
        case measure => omega
        case rel => exact ⟨j + 1, by omega, by omega, by go_num, by rw [HTK.out]; rfl, hB⟩
      · have hltz : ¬ (j : Int) < (gates.length : Int) := by omega
        have e : gates.take j = gates := List.take_of_length_le (by omega)
        rw [e]
        have hz : ¬ (200000 : Int) < (litSum gates : Int) := by omega
        have CM := marks_any (.slice Aa ins.length ca) ins wr (ha.keep (keeps_below hB)) (fun x hx => by have := f1 x hx; omega)
        clear e
        go_wp2_with fail
        refine CM.mono ?_
        rintro e w2 ⟨b8, rfl, hS2, hB2, hb8⟩
        have hB02 := below_then hB hB.size hB2
        have hmk := make47r gates.length (by omega) w2
        have hR0 := row_madeT w2 gates.length
        have hB3 : Below w2.heap.size w2 (w2.alloc (.cells (madeCells #[Value.bool false] gates.length) 4)) := (Below.refl _ w2).alloc (Nat.le_refl _) _
        have hz3 : (w2.alloc (.cells (madeCells #[Value.bool false] gates.length) 4)).heap.size = w2.heap.size + 1 := World.size_alloc _ _
        revert hmk hR0 hB3 hz3
        generalize w2.alloc (.cells (madeCells #[Value.bool false] gates.length) 4) = w3
        intro hmk hR0 hB3 hz3
        have hS3 := hS2.below hB3
        have hB03 := below_then hB02 hB02.size hB3
        have hb82 := hS2.lt
        have hszB := hB.size
        clear CM hS2 hB02
        go_wp2_with fail
        go_loopg [10, 11, 12, 13, 14] gates.length (fun gg s10 _ _ _ _ wr => ∃ (S t : Nat → Bool) (out : List PGate) (Ao : Option Addr) (co : Nat), (remF t 0 gates).length ≤ gg ∧ s10 = .slice Ao out.length co ∧ out.length + (remF t 0 gates).length = gates.length ∧ Below w.heap.size w wr ∧ w3.heap.size ≤ wr.heap.size ∧
          SetAt wr b8 4 S ∧ RowT wr w2.heap.size gates.length t ∧ RowG w0 wr w3.heap.size (.slice Ao out.length co) out ∧ Rem (ordGo gates.length (setOf ins) [] gates) (ordGo (remF t 0 gates).length S out (remF t 0 gates)))
        case atStart => exact ⟨setOf ins, noS, [], none, 0, by rw [remF_none]; exact Nat.le_refl _, rfl, by rw [remF_none]; simp, hB03, Nat.le_refl _, hS3, hR0, ⟨[], rfl, World.ownsRow_nil _ _ _ _, fun e he => by cases he⟩, ⟨by rw [remF_none]⟩⟩
        case round =>
          clear hmk hR0 hS3 hB03 hB3
          obtain ⟨S, t, out, Ao, co, hg, rfl, hlen, hB, hs3, hS, hR, hRO, HA⟩ := hrel
          by_cases hlt : 0 < (remF t 0 gates).length
          · have hltz : (out.length : Int) < (gates.length : Int) := by omega
            go_wp2_with fail
            go_loopg [11, 12, 13, 14] gates.length (fun gg s11 s12 _ _ wr' => ∃ (i : Nat) (at' : Int), i ≤ gates.length ∧ gates.length - i ≤ gg ∧ s12 = .int .i64 (i : Int) ∧ s11 = .int .i64 at' ∧ wr' = wr ∧ Aside ((at' = -1 ∧ pickAt S t 0 gates = pickAt S t i (gates.drop i)) ∨ ∃ a : Nat, at' = (a : Int) ∧ pickAt S t 0 gates = some a))
            case atStart => exact ⟨0, -1, Nat.zero_le _, by omega, rfl, rfl, rfl, .inl ⟨rfl, rfl⟩⟩
            case round =>
              obtain ⟨i, at', hi', hgi, rfl, rfl, hw, hPK⟩ := hrel
              subst hw
              rcases hPK with ⟨rfl, hpk⟩ | ⟨a, rfl, hpk⟩
              · by_cases hlti : i < gates.length
                · obtain ⟨g, hgx, hgm, hgd⟩ := nth hlti
                  obtain ⟨bg, offg, vi, rfl, hc0, hc1, hc2, hi, -⟩ := (hg0.keep (keeps_below hB)).at_ i g hgx
                  obtain ⟨Ai, ci, rfl, hli, hci⟩ := hi.form
                  have hltzi : (i : Int) < (gates.length : Int) := by omega
                  have hti := hR.cell i hlti
                  have hpk2 : pickAt S t 0 gates = if (!t i && readyG S g) = true then some i else pickAt S t (i + 1) (gates.drop (i + 1)) := by rw [hpk, hgd]; rfl
                  have hf3 := HF.out.2 g hgm
                  obtain ⟨q, hq⟩ : ∃ q, (!t i && readyG S g) = q := ⟨_, rfl⟩
                  rw [hq] at hpk2
                  have HQ : Rem q (!t i && (g.ins.drop 0).all fun l => S (absN l)) := ⟨by rw [← hq, ready_all]; rfl⟩
                  have HP := hid hpk2
                  have HF3 := hid hf3
                  clear hgx hgm hgd hpk hpk2 hq hf3 hc0 hc1
                  generalize t i = ti at hti HQ
                  go_wp2_with fail
                  go_loopg [13, 14] g.ins.length (fun gg s13 s14 wr' => ∃ (k : Nat) (r : Bool), k ≤ g.ins.length ∧ g.ins.length - k ≤ gg ∧ s14 = .int .i64 (k : Int) ∧ s13 = .bool r ∧ wr' = wr ∧ Rem q (r && (g.ins.drop k).all fun l => S (absN l)))
                  case atStart => exact ⟨0, !ti, Nat.zero_le _, by omega, rfl, rfl, rfl, HQ⟩
                  case round =>
                    clear HQ
                    obtain ⟨k, r, hk, hgk, rfl, rfl, hw, HQ⟩ := hrel
                    subst hw
                    by_cases hltk : k < g.ins.length
                    · have hltzk : (k : Int) < (g.ins.length : Int) := by omega
                      cases r with
                      | false =>
                        have hq : q = false := by rw [HQ.out]; rfl
                        subst hq
                        go_wp2_with fail
                        go_roundg (gates.length - (i + 1))
                        case measure => omega
                        case rel => exact ⟨i + 1, -1, by omega, by omega, by go_num, rfl, rfl, .inl ⟨rfl, by have := HP.out; simpa using this⟩⟩
                      | true =>
                        obtain ⟨y, hy, hym, hyd⟩ := nth hltk
                        obtain ⟨b2, o2, rfl, hcy, hy64⟩ := hi.at_ k y hy
                        have hyp := HF3.out y hym
                        have CY := absR_any y wr hy64
                        rw [absR_eq hyp] at CY
                        have hqy := absN_lt y
                        have HQ2 : Rem q (S (absN y) && (g.ins.drop (k + 1)).all fun l => S (absN l)) := ⟨by rw [HQ.out, hyd, List.all_cons, Bool.true_and]⟩
                        obtain ⟨z, hz⟩ : ∃ z, absN y = z := ⟨_, rfl⟩
                        rw [hz] at CY hqy HQ2
                        have hcz := hS.cell z hqy
                        clear hy hym hyd hyp hy64 hz
                        go_wp2_with (first | (go_at_call 54; refine CY.mono ?_; rintro e w' ⟨rfl, hw⟩; obtain rfl : wr = w' := hw.symm) | fail)
                        go_roundg (g.ins.length - (k + 1))
                        case measure => omega
                        case rel => exact ⟨k + 1, S z, by omega, by omega, by go_num, rfl, rfl, HQ2⟩
                    · have hltzk : ¬ (k : Int) < (g.ins.length : Int) := by omega
                      have hq : q = r := by rw [HQ.out, List.drop_eq_nil_of_le (by omega)]; simp
                      subst hq
                      cases q with
                      | false =>
                        go_wp2_with fail
                        go_roundg (gates.length - (i + 1))
                        case measure => omega
                        case rel => exact ⟨i + 1, -1, by omega, by omega, by go_num, rfl, rfl, .inl ⟨rfl, by have := HP.out; simpa using this⟩⟩
                      | true =>
                        go_wp2_with fail
                        go_roundg (gates.length - (i + 1))
                        case measure => omega
                        case rel => exact ⟨i + 1, (i : Int), by omega, by omega, by go_num, rfl, rfl, .inr ⟨i, rfl, by have := HP.out; simpa using this⟩⟩
                · have hltzi : ¬ (i : Int) < (gates.length : Int) := by omega
                  have hpn : pickAt S t 0 gates = none := by rw [hpk, List.drop_eq_nil_of_le (by omega)]; rfl
                  have hpg : pickG S (remF t 0 gates) = none := by
                    rcases pick_at S t gates 0 with ⟨h1, h2⟩ | ⟨a, g, h1, _⟩
                    · exact h2
                    · rw [hpn] at h1; cases h1
                  obtain ⟨k, hk⟩ : ∃ k, (remF t 0 gates).length = k + 1 := ⟨(remF t 0 gates).length - 1, by omega⟩
                  have e : orderP ins gates = ([], 50) := by rw [HE.out, HA.out, ordGo_stop hpg hk]
                  have HE2 := hid e
                  clear hpn hpg hk e hpk
                  go_wp2_with fail
                  go_ret2
                  unfold GatesPostK
                  rw [HE2.out]
                  exact ⟨hB, _, rfl, gatesK_none _ _ _⟩
              · obtain ⟨g, hgx, hta, hpg⟩ : ∃ g, gates[a]? = some g ∧ t a = false ∧ pickG S (remF t 0 gates) = some (g, remF (upd t a true) 0 gates) := by
                  rcases pick_at S t gates 0 with ⟨h1, h2⟩ | ⟨a', g, h1, _, h3, h4, h5⟩
                  · rw [hpk] at h1; cases h1
                  · rw [hpk] at h1
                    injection h1 with h1
                    subst h1
                    exact ⟨g, by simpa using h3, h4, h5⟩
                have hal : a < gates.length := (List.getElem?_eq_some_iff.1 hgx).1
                have hpl := pick_len hpg
                have hA2 := HA.out.trans (ordGo_step hpg hpl)
                obtain ⟨bg, offg, vi, rfl, q00, q10, q20, hi, hv64⟩ := hgw.at_ a g hgx
                have q0 := hk0 _ _ q00
                have q1 := hk0 _ _ q10
                have q2 := hk0 _ _ q20
                clear q00 q10 q20
                obtain ⟨Ai, ci, rfl, hli, hci⟩ := hi.form
                obtain ⟨hg1, hg2⟩ := HF.out.1 g (List.mem_of_getElem? hgx)
                obtain ⟨m, hm⟩ : ∃ m : Nat, g.var = m := Int.eq_ofNat_of_zero_le (by omega)
                have hm1 : m < 65537 := by omega
                obtain ⟨eo, ho1, hO, ho3⟩ := hRO
                rw [hm] at q0
                have haz : (a : Int) < (gates.length : Int) := by omega
                have ha0 : decide ((a : Int) < 0) = false := decide_eq_false (by omega)
                have hta' := hR.cell a hal
                have htf := hR.free a
                have hB10 : Below w.heap.size w (wr.setCell ⟨w2.heap.size, a, none⟩ (.bool true)) := hB.setCell (p := ⟨w2.heap.size, a, none⟩) (by show w.heap.size ≤ w2.heap.size; omega) _
                have hS10 := hS.other (a := ⟨w2.heap.size, a, none⟩) (by show b8 ≠ w2.heap.size; omega) (.bool true)
                have hR10 := hR.store a true
                have k0 := keeps_below hB10 _ _ q0
                have hcm := hS10.cell m hm1
                have hfm := hS10.free m
                have hB11 := hB10.setCell (p := ⟨b8, m, none⟩) (by show w.heap.size ≤ b8; omega) (.bool true)
                have hS11 := hS10.store m true
                have hR11 := hR10.heap (heap_setCell_other (wr.setCell ⟨w2.heap.size, a, none⟩ (.bool true)) ⟨b8, m, none⟩ w2.heap.size (.bool true) (by show w2.heap.size ≠ b8; omega))
                have m0 := keeps_below hB11 _ _ q0
                have m1 := keeps_below hB11 _ _ q1
                have m2 := keeps_below hB11 _ _ q2
                have hG10 := grown_setCell wr ⟨w2.heap.size, a, none⟩ (.bool true)
                have hG11 := grown_setCell (wr.setCell ⟨w2.heap.size, a, none⟩ (.bool true)) ⟨b8, m, none⟩ (.bool true)
                have hO11 := (hO.kept hG10 (by
                  cases hq2 : (Value.slice Ao out.length co).ownBlock with
                  | none => exact .inl rfl
                  | some r => right; intro e; have h1 := (hO.lt r hq2).1; have h2 : r = w2.heap.size := Option.some.inj e; omega)).kept hG11 (by
                  cases hq2 : (Value.slice Ao out.length co).ownBlock with
                  | none => exact .inl rfl
                  | some r => right; intro e; have h1 := (hO.lt r hq2).1; have h2 : r = b8 := Option.some.inj e; omega)
                have hsz11 : ((wr.setCell ⟨w2.heap.size, a, none⟩ (.bool true)).setCell ⟨b8, m, none⟩ (.bool true)).heap.size = wr.heap.size := by simp
                have hbaseO : w3.heap.size ≤ ((wr.setCell ⟨w2.heap.size, a, none⟩ (.bool true)).setCell ⟨b8, m, none⟩ (.bool true)).heap.size := by rw [hsz11]; exact hs3
                have hol40 : (out.length + 1) * 40 ≤ 140737488355328 := by omega
                have HX := hid (And.intro hA2 (And.intro hpl (And.intro ho1 (And.intro ho3 (And.intro (And.intro hv64 hi) hm)))))
                clear hpk hgx hpg hA2 hpl hv64 ho1 ho3 hm hg1 hg2 q0 q1 q2 hG10 hG11 hta hi hO
                by_cases hlti : i < gates.length
                · have hltzi : (i : Int) < (gates.length : Int) := by omega
                  go_wp2_with (first | (at_builtin; refine append_one w3.heap.size rfl _ _ 38 88 (.agg #[.int .i64 0, .int .u8 0, .slice none 0 0]) 3 40 rfl Tryz.underlying38 info70 rfl (by decide) (by decide) (.slice Ao out.length co) out.length (gcells (eo.map (·.1))) #[.int .i64 (m : Int), .int .u8 g.kind, .slice Ai g.ins.length ci] rfl (by rw [hsz11]; rfl) rfl (by intro u hu; simp at hu; rcases hu with rfl | rfl | rfl <;> rfl) hO11 hbaseO hol40 ?_; intro g2 cap2 w12 hO12 hG12 hg12 hbg12 hlt12) | fail)
                  obtain ⟨hA2, hpl, ho1, ho3, hok, hmv⟩ := HX.out
                  have hB012 := hB11.grown hG12 hB11.size (fun r e => by have := (hO11.lt r e).1; omega)
                  have hs12 := hG12.size
                  have hno12 : ∀ r, r < w3.heap.size → (Value.slice Ao out.length co).ownBlock ≠ some r := fun r hr e => by have := (hO11.lt r e).1; omega
                  have hS12 := hS11.kept hG12 (fun e => hno12 _ (by omega) e)
                  have hR12 := hR11.heap (hG12.block _ hR11.lt (fun e => hno12 _ (by omega) e.symm))
                  go_roundg (remF (upd t a true) 0 gates).length
                  case measure => omega
                  case rel =>
                    refine ⟨upd S m true, upd t a true, out ++ [g], some ⟨g2, 0, none⟩, cap2, Nat.le_refl _, by simp, by rw [List.length_append]; simp; omega, hB012, by omega, hS12, hR12, ?_, ⟨by rw [hA2, hmv, Int.toNat_natCast]⟩⟩
                    refine ⟨eo ++ [(((m : Int), g.kind, Ai, g.ins.length, ci), g)], by rw [List.map_append, ho1]; rfl, ?_, fun e hee => ?_⟩
                    · have e2 : gcells ((eo ++ [(((m : Int), g.kind, Ai, g.ins.length, ci), g)]).map (·.1)) = gcells (eo.map (·.1)) ++ (#[Value.int .i64 (m : Int), .int .u8 g.kind, .slice Ai g.ins.length ci] : Array Value).toList := by
                        rw [List.map_append, gcells_append]; rfl
                      rw [e2]
                      simpa using hO12
                    · rcases List.mem_append.1 hee with hee | hee
                      · exact ho3 e hee
                      · rw [List.mem_singleton] at hee
                        subst hee
                        exact ⟨hmv.symm, rfl, hok.1, hok.2⟩
                · have hltzi : ¬ (i : Int) < (gates.length : Int) := by omega
                  go_wp2_with (first | (at_builtin; refine append_one w3.heap.size rfl _ _ 38 88 (.agg #[.int .i64 0, .int .u8 0, .slice none 0 0]) 3 40 rfl Tryz.underlying38 info70 rfl (by decide) (by decide) (.slice Ao out.length co) out.length (gcells (eo.map (·.1))) #[.int .i64 (m : Int), .int .u8 g.kind, .slice Ai g.ins.length ci] rfl (by rw [hsz11]; rfl) rfl (by intro u hu; simp at hu; rcases hu with rfl | rfl | rfl <;> rfl) hO11 hbaseO hol40 ?_; intro g2 cap2 w12 hO12 hG12 hg12 hbg12 hlt12) | fail)
                  obtain ⟨hA2, hpl, ho1, ho3, hok, hmv⟩ := HX.out
                  have hB012 := hB11.grown hG12 hB11.size (fun r e => by have := (hO11.lt r e).1; omega)
                  have hs12 := hG12.size
                  have hno12 : ∀ r, r < w3.heap.size → (Value.slice Ao out.length co).ownBlock ≠ some r := fun r hr e => by have := (hO11.lt r e).1; omega
                  have hS12 := hS11.kept hG12 (fun e => hno12 _ (by omega) e)
                  have hR12 := hR11.heap (hG12.block _ hR11.lt (fun e => hno12 _ (by omega) e.symm))
                  go_roundg (remF (upd t a true) 0 gates).length
                  case measure => omega
                  case rel =>
                    refine ⟨upd S m true, upd t a true, out ++ [g], some ⟨g2, 0, none⟩, cap2, Nat.le_refl _, by simp, by rw [List.length_append]; simp; omega, hB012, by omega, hS12, hR12, ?_, ⟨by rw [hA2, hmv, Int.toNat_natCast]⟩⟩
                    refine ⟨eo ++ [(((m : Int), g.kind, Ai, g.ins.length, ci), g)], by rw [List.map_append, ho1]; rfl, ?_, fun e hee => ?_⟩
                    · have e2 : gcells ((eo ++ [(((m : Int), g.kind, Ai, g.ins.length, ci), g)]).map (·.1)) = gcells (eo.map (·.1)) ++ (#[Value.int .i64 (m : Int), .int .u8 g.kind, .slice Ai g.ins.length ci] : Array Value).toList := by
                        rw [List.map_append, gcells_append]; rfl
                      rw [e2]
                      simpa using hO12
                    · rcases List.mem_append.1 hee with hee | hee
                      · exact ho3 e hee
                      · rw [List.mem_singleton] at hee
                        subst hee
                        exact ⟨hmv.symm, rfl, hok.1, hok.2⟩
          · have hltz : ¬ (out.length : Int) < (gates.length : Int) := by omega
            have hl0 : remF t 0 gates = [] := List.eq_nil_of_length_eq_zero (by omega)
            have e : orderP ins gates = (out, 0) := by rw [HE.out, HA.out, hl0]; rfl
            have HE2 := hid e
            have HRO := hid hRO
            clear hl0 e
            go_wp2_with fail
            go_ret2
            unfold GatesPostK
            rw [HE2.out]
            exact ⟨hB, _, rfl, HRO.out.lower (by omega)⟩
end Go.Proofs.YtnlobmepajakcaaGreatDoor
