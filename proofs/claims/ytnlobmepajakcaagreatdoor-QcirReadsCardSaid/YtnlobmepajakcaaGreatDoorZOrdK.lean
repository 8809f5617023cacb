/- What circ.Order does; the conditions: at most 2^62 literals and 1,000,000 gates / What Order of circ does, with the literals read in a world before it; the conditions of Order_any. -/
import Derived.Test.YtnlobmepajakcaaGreatDoorZRefM
import Derived.Test.YtnlobmepajakcaaGreatDoorZRef
import Derived.Test.YtnlobmepajakcaaGreatDoorZSemO
import Derived.Test.YtnlobmepajakcaaGreatDoorZPlain
import Derived.Test.YtnlobmepajakcaaGreatDoorZOrdA
set_option linter.unusedVariables false
set_option linter.unusedSimpArgs false
namespace Go.Proofs.YtnlobmepajakcaaGreatDoor
open Go.RowKit Go.Shelf

theorem info86 : (Tryz.prog.info? 138).map (·.size) = some 65537 := by kernel_rfl
theorem set_cells {w : World} {b t : Nat} {S : Nat → Bool} (h : SetAt w b t S) : ∃ cs : Array Value, w.heap[b]? = some (.cells cs t (0, 0)) ∧ cs.size = 65537 ∧ cs.all (·.oneCell') = true ∧ ∀ i, i < 65537 → cs[i]? = some (.bool (S i)) := by
  obtain ⟨cs, h1, h2, h3⟩ := h
  refine ⟨cs, h1, h2, ?_, h3⟩
  rw [Array.all_eq_true]
  intro i hi
  have := h3 i (by omega)
  rw [Array.getElem?_eq_getElem hi] at this
  injection this with this
  rw [this]; rfl
/-- A whole set is put over another. -/
theorem step_copy86 {ops : Array Oper} {rest : List Oper} {Q : Exit → Act → World → Prop} {a : Act} {w : World} {d i j : Nat} {ty ty2 : TypeId} {pos pos2 : String} {after after2 : Array Edge} {b c t t2 : Nat} {S T : Nat → Bool}
    (hd : d < a.tmps.size) (hdj : d ≠ j) (hi : a.tmps.getD i undef = .pointer (some ⟨b, 0, none⟩)) (hj : a.tmps.getD j undef = .pointer (some ⟨c, 0, none⟩)) (hS : SetAt w b t S) (hT : SetAt w c t2 T)
    (h : ∀ u w', SetAt w' c t2 S → w.grownBy w' (some c) → wpList Tryz.prog ops Q rest (a.put (some d) u) w') :
    wpList Tryz.prog ops Q ({ dst := some d, op := .load 138 (.tmp i), type := ty, pos, after, guard := none } :: { dst := none, op := .store 138 (.tmp j) (.tmp d), type := ty2, pos := pos2, after := after2, guard := none } :: rest) a w := by
  obtain ⟨cs, h1, h2, h3, h4⟩ := set_cells hS
  obtain ⟨cs2, k1, k2, k3, k4⟩ := set_cells hT
  refine wpList_load_row rfl 138 (.tmp i) rfl b hi t cs (0, 0) _ h1 u86 rfl (by rw [h2]; exact info86) ?_
  refine wpList_store_row rfl 138 (.tmp j) (.tmp d) rfl c cs ?_ ?_ t2 cs2 k1 (by rw [h2]; exact info86) (by rw [h2, k2]) h3 ?_
  · show (a.put (some d) (.agg cs)).tmps.getD j undef = _
    unfold Act.put
    simp only
    rw [Array.getD_eq_getD_getElem?, Array.getElem?_setIfInBounds_ne hdj, ← Array.getD_eq_getD_getElem?]
    exact hj
  · show (a.put (some d) (.agg cs)).tmps.getD d undef = _
    unfold Act.put
    simp only
    rw [Array.getD_eq_getD_getElem?, Array.getElem?_setIfInBounds_self_of_lt hd]
    rfl
  · exact h (.agg cs) (w.setRow c cs) ⟨cs, setRow_heap w c cs2 cs t2 (0, 0) k1, h2, h4⟩ ⟨rfl, rfl, rfl, by simp, fun k _ hk => setRow_other w c k cs (fun e => hk (by rw [e]))⟩
theorem addGs_good2 : ∀ (gs : List PGate) {S A : Nat → Bool}, addGs S gs = some A → ∀ g ∈ gs, 1 ≤ g.var ∧ g.var ≤ 65536
  | [], S, A, h, g, hg => by cases hg
  | x :: gs, S, A, h, g, hg => by
    unfold addGs at h
    split at h
    · cases h
    · split at h
      · rename_i h2
        rcases List.mem_cons.1 hg with rfl | hg
        · rw [addB_iff] at h2; exact ⟨h2.1, h2.2.1⟩
        · exact addGs_good2 gs h g hg
      · cases h
theorem addS_true {S : Nat → Bool} {v : Int} (h : addB S v = true) : addS S v = upd S v.toNat true := by unfold addS; rw [if_pos h]
theorem addIns_cons (S : Nat → Bool) (v : Int) (vs : List Int) : addIns S (v :: vs) = if addB S v = true then addIns (upd S v.toNat true) vs else none := rfl
theorem addGs_cons (S : Nat → Bool) (g : PGate) (gs : List PGate) : addGs S (g :: gs) = if shapedB g.kind g.ins.length = false then none else if addB S g.var = true then addGs (upd S g.var.toNat true) gs else none := rfl
theorem map_erase {α β : Type} (f : α → β) (l : List α) (i : Nat) : (l.eraseIdx i).map f = (l.map f).eraseIdx i := by
  rw [List.eraseIdx_eq_take_drop_succ, List.eraseIdx_eq_take_drop_succ, List.map_append, List.map_take, List.map_drop]
theorem ordGo_step {n : Nat} {S : Nat → Bool} {out left : List PGate} {g : PGate} {l : List PGate} (h : pickG S left = some (g, l)) (hn : left.length = n + 1) : ordGo left.length S out left = ordGo n (upd S g.var.toNat true) (out ++ [g]) l := by
  rw [hn]
  show (match pickG S left with | none => none | some r => ordGo n (upd S r.1.var.toNat true) (out ++ [r.1]) r.2) = _
  rw [h]
theorem ordGo_stop {n : Nat} {S : Nat → Bool} {out left : List PGate} (h : pickG S left = none) (hn : left.length = n + 1) : ordGo left.length S out left = none := by
  rw [hn]; unfold ordGo; rw [h]
end Go.Proofs.YtnlobmepajakcaaGreatDoor
namespace Go.Proofs.YtnlobmepajakcaaGreatDoor
open Go.RowKit Go.Shelf

def GatesPostK (w0 : World) (r : List PGate × Int) (w : World) (e : Ending) (w' : World) : Prop :=
  Below w.heap.size w w' ∧ ∃ v, e = .returned (.tuple #[v, .int .i64 r.2]) ∧ RowG w0 w' w.heap.size v r.1
theorem RowG.lower {w0 W : World} {base base' : Nat} {v : Value} {gs : List PGate} (h : RowG w0 W base v gs) (hb : base' ≤ base) : RowG w0 W base' v gs := by
  obtain ⟨es, h1, h2, h3⟩ := h
  exact ⟨es, h1, own_lower h2 hb, h3⟩
theorem gatesK_none (w0 w : World) (b : Nat) : RowG w0 w b (.slice none 0 0) [] := ⟨[], rfl, World.ownsRow_nil _ _ _ _, fun e he => by cases he⟩
set_option maxRecDepth 100000 in
set_option maxHeartbeats 2000000 in
theorem Order_K (va vg : Value) (ins : List Int) (gates : List PGate) (w w0 : World) (ha : IntsAt w va ins) (hgw : GatesAt w0 vg gates) (hk0 : Keeps w0 w) (hl : litSum gates ≤ 4611686018427387904) (hgl : gates.length ≤ 1000000) :
    Calls Tryz.prog 45 #[va, vg] w (GatesPostK w0 (orderP ins gates) w) := by
  have hg0 : GatesAt w vg gates := hgw.keep hk0
  obtain ⟨Aa, ca, rfl, hla, hca⟩ := ha.form
  obtain ⟨Ag, cg, rfl, hlg, hcg⟩ := hg0.form
  obtain ⟨w1, hw1, hS1, hz1, hB1⟩ := new_set w 138
  obtain ⟨w2, hw2, hS2, hz2, hB2⟩ := new_set w1 138
  have hS12 := hS1.below hB2
  rw [hz1] at hS2 hz2
  have hB02 := below_then hB1 hB1.size hB2
  go_enter Tryz.func45, Tryz.ntmps45
  clear hS1 hB1 hB2
  go_wp2_with fail
  go_loopg [9, 20] ins.length (fun gg _ s20 wr => ∃ (j : Nat) (S : Nat → Bool), j ≤ ins.length ∧ ins.length - j ≤ gg ∧ s20 = .int .i64 (j : Int) ∧ Below w.heap.size w wr ∧ SetAt wr w.heap.size 138 S ∧ SetAt wr (w.heap.size + 1) 138 noS ∧ Rem (addIns noS ins) (addIns S (ins.drop j)))
  case atStart => exact ⟨0, noS, Nat.zero_le _, by omega, rfl, hB02, hS12, hS2, ⟨rfl⟩⟩
  case round =>
    clear hB02 hS12 hS2
    obtain ⟨j, S, hj, hg, rfl, hB, hS6, hS7, HA⟩ := hrel
    by_cases hlt : j < ins.length
    · obtain ⟨x, hx, hxm, hd⟩ := nth hlt
      obtain ⟨bx, ox, rfl, hcx, hx64⟩ := (ha.keep (keeps_below hB)).at_ j x hx
      have hltz : (j : Int) < (ins.length : Int) := by omega
      have CA := add_any w.heap.size 138 S x wr hS6
      have hA : addIns noS ins = if addB S x = true then addIns (upd S x.toNat true) (ins.drop (j + 1)) else none := by rw [HA.out, hd, addIns_cons]
      have HS := hid hS7
      cases hq : addB S x with
      | false =>
        rw [hq, if_neg (by simp)] at hA
        rw [hq] at CA
        have e : orderP ins gates = ([], 2) := by unfold orderP; rw [hA]
        have HE := hid e
        clear hx hxm hd hx64 hA hq e hS6 hS7
        go_wp2_with (first | (go_at_call 86; refine CA.mono ?_; rintro e w8 ⟨rfl, hS68, hG8⟩) | fail)
        go_ret2
        unfold GatesPostK
        rw [HE.out]
        exact ⟨hB.grown hG8 hB.size (fun r e => by have := Option.some.inj e; omega), _, rfl, gatesK_none _ _ _⟩
      | true =>
        rw [hq, if_pos rfl] at hA
        rw [hq, addS_true hq] at CA
        have HE := hid hA
        clear hx hxm hd hx64 hA hq hS6 hS7
        go_wp2_with (first | (go_at_call 86; refine CA.mono ?_; rintro e w8 ⟨rfl, hS68, hG8⟩) | fail)
        go_roundg (ins.length - (j + 1))
        case measure => omega
        case rel => exact ⟨j + 1, _, by omega, by omega, by go_num, hB.grown hG8 hB.size (fun r e => by have := Option.some.inj e; omega), hS68, HS.out.kept hG8 (by intro e; have e' : w.heap.size = w.heap.size + 1 := Option.some.inj e; omega), ⟨HE.out⟩⟩
    · have hltz : ¬ (j : Int) < (ins.length : Int) := by omega
      have hI : addIns noS ins = some S := by rw [HA.out, List.drop_eq_nil_of_le (by omega)]; rfl
      have HI := hid hI
      clear hI HA
      obtain ⟨S0, hS0⟩ : ∃ S0, S = S0 := ⟨_, rfl⟩
      go_wp2_with ((with_reducible refine step_copy86 ?_ ?_ ?_ ?_ hS6 hS7 (fun u28 w7 hS77 hG7 => ?_)); (simp only [List.size_toArray, List.length_cons, List.length_nil]; omega); decide; rfl; rfl; have hS67 := hS6.kept hG7 (by intro e; have e' : w.heap.size + 1 = w.heap.size := Option.some.inj e; omega); have hB07 : Below w.heap.size w w7 := hB.grown hG7 hB.size (fun r e => by have := Option.some.inj e; omega); clear hS6 hS7 hB hG7)
      go_loopg [11, 31] gates.length (fun gg _ s31 wr => ∃ (j : Nat) (T : Nat → Bool), j ≤ gates.length ∧ gates.length - j ≤ gg ∧ s31 = .int .i64 (j : Int) ∧ Below w.heap.size w wr ∧ SetAt wr w.heap.size 138 T ∧ SetAt wr (w.heap.size + 1) 138 S ∧ Rem (addGs S gates) (addGs T (gates.drop j)))
      case atStart => exact ⟨0, S, Nat.zero_le _, by omega, rfl, hB07, hS67, hS77, ⟨rfl⟩⟩
      case round =>
        clear hB07 hS67 hS77
        obtain ⟨j, T, hj, hg, rfl, hB, hS6, hS7, HA⟩ := hrel
        by_cases hlt : j < gates.length
        · obtain ⟨g, hgx, hgm, hgd⟩ := nth hlt
          obtain ⟨bg, offg, vi, eA, hc0, hc1, hc2, hi, hg64, hkd0, hkd1⟩ := (hg0.keep (keeps_below hB)).at_ j g hgx
          subst eA
          obtain ⟨Ai, ci, rfl, hli, hci⟩ := hi.form
          have hltz : (j : Int) < (gates.length : Int) := by omega
          obtain ⟨wN, hwN, hcN, -, hzN, hBN, hrN⟩ := new_block wr #[.int .i64 g.var, .int .u8 g.kind, .slice Ai g.ins.length ci] 88
          have x0 : wN.cell? ⟨wr.heap.size, 0, none⟩ = some (.int .i64 g.var) := hcN 0 _ rfl
          have x1 : wN.cell? ⟨wr.heap.size, 1, none⟩ = some (.int .u8 g.kind) := hcN 1 _ rfl
          have x2 : wN.cell? ⟨wr.heap.size, 2, none⟩ = some (.slice Ai g.ins.length ci) := hcN 2 _ rfl
          have hBNr := below_then hB hB.size hBN
          have CS := shaped_any g.var g.kind Ai g.ins.length ci wN (by omega)
          have CA := fun W (hW : Below wN.heap.size wN W) => add_any w.heap.size 138 T g.var W ((hS6.below hBN).below hW)
          have hA : addGs S gates = if shapedB g.kind g.ins.length = false then none else if addB T g.var = true then addGs (upd T g.var.toNat true) (gates.drop (j + 1)) else none := by rw [HA.out, hgd, addGs_cons]
          have HS := hid (hS7.below hBN)
          clear hgx hgm hgd hi hg64 hkd0 hkd1 hcN hrN hS6 hS7 hBN
          cases hsh : shapedB g.kind g.ins.length with
          | false =>
            rw [hsh, if_pos rfl] at hA
            rw [hsh] at CS
            have e : orderP ins gates = ([], 2) := by unfold orderP; rw [HI.out]; simp only; rw [hA]
            have HE := hid e
            clear hA hsh e
            go_wp2_with (first | (go_at_call 87; refine CS.mono ?_; rintro e w8 ⟨rfl, hB8⟩) | fail)
            go_ret2
            unfold GatesPostK
            rw [HE.out]
            exact ⟨below_then hBNr hBNr.size hB8, _, rfl, gatesK_none _ _ _⟩
          | true =>
            rw [hsh, if_neg (by simp)] at hA
            rw [hsh] at CS
            clear hsh
            cases hq : addB T g.var with
            | false =>
              rw [hq, if_neg (by simp)] at hA
              rw [hq] at CA
              have e : orderP ins gates = ([], 2) := by unfold orderP; rw [HI.out]; simp only; rw [hA]
              have HE := hid e
              clear hA hq e
              go_wp2_with (first | (go_at_call 87; refine CS.mono ?_; rintro e w8 ⟨rfl, hB8⟩; have x0' := keeps_below hB8 _ _ x0) | (go_at_call 86; refine (CA _ hB8).mono ?_; rintro e w9 ⟨rfl, hS69, hG9⟩) | fail)
              go_ret2
              unfold GatesPostK
              rw [HE.out]
              have hB08 := below_then hBNr hBNr.size hB8
              exact ⟨hB08.grown hG9 hB08.size (fun r e => by have := Option.some.inj e; omega), _, rfl, gatesK_none _ _ _⟩
            | true =>
              rw [hq, if_pos rfl] at hA
              rw [hq, addS_true hq] at CA
              have HE := hid hA
              clear hA hq
              go_wp2_with (first | (go_at_call 87; refine CS.mono ?_; rintro e w8 ⟨rfl, hB8⟩; have x0' := keeps_below hB8 _ _ x0) | (go_at_call 86; refine (CA _ hB8).mono ?_; rintro e w9 ⟨rfl, hS69, hG9⟩) | fail)
              have hB08 := below_then hBNr hBNr.size hB8
              go_roundg (gates.length - (j + 1))
              case measure => omega
              case rel => exact ⟨j + 1, _, by omega, by omega, by go_num, hB08.grown hG9 hB08.size (fun r e => by have := Option.some.inj e; omega), hS69, (HS.out.below hB8).kept hG9 (by intro e; have e' : w.heap.size = w.heap.size + 1 := Option.some.inj e; omega), ⟨HE.out⟩⟩
        · have hltz : ¬ (j : Int) < (gates.length : Int) := by omega
          have hG : addGs S gates = some T := by rw [HA.out, List.drop_eq_nil_of_le (by omega)]; rfl
          have HG := hid hG
          clear hG HA
          go_wp2_with fail
          go_loopg [13, 47] gates.length (fun gg _ s47 wr => ∃ (j : Nat), j ≤ gates.length ∧ gates.length - j ≤ gg ∧ s47 = .int .i64 (j : Int) ∧ Below w.heap.size w wr ∧ SetAt wr w.heap.size 138 T ∧ SetAt wr (w.heap.size + 1) 138 S ∧ Rem (strangeG T gates) (strangeG T (gates.drop j)))
          case atStart => exact ⟨0, Nat.zero_le _, by omega, rfl, hB, hS6, hS7, ⟨rfl⟩⟩
          case round =>
            clear hB hS6 hS7
            obtain ⟨j, hj, hg, rfl, hB, hS6, hS7, HA⟩ := hrel
            by_cases hlt : j < gates.length
            · obtain ⟨g, hgx, hgm, hgd⟩ := nth hlt
              obtain ⟨bg, offg, vi, eA, hc0, hc1, hc2, hi, hg64, hkd0, hkd1⟩ := (hg0.keep (keeps_below hB)).at_ j g hgx
              subst eA
              obtain ⟨Ai, ci, rfl, hli, hci⟩ := hi.form
              have hltz : (j : Int) < (gates.length : Int) := by omega
              obtain ⟨wN, hwN, hcN, -, hzN, hBN, hrN⟩ := new_block wr #[.int .i64 g.var, .int .u8 g.kind, .slice Ai g.ins.length ci] 88
              have x2 : wN.cell? ⟨wr.heap.size, 2, none⟩ = some (.slice Ai g.ins.length ci) := hcN 2 _ rfl
              have hBNr := below_then hB hB.size hBN
              have CC := strange_list 88 Tryz.f88 (enters_of Tryz.func88 (by kernel_rfl) rfl) w.heap.size 138 T (.slice Ai g.ins.length ci) g.ins wN (hS6.below hBN) (hi.keep (keeps_below hBN)) (fun l W hW => strange68 w.heap.size 138 T l W hW)
              have hA : strangeG T gates = ((g.ins.any fun l => !T (absN l)) || strangeG T (gates.drop (j + 1))) := by rw [HA.out, hgd]; rfl
              have HS := hid (And.intro (hS6.below hBN) (hS7.below hBN))
              clear hgx hgm hgd hi hg64 hkd0 hkd1 hcN hrN hS6 hS7 hBN
              cases hq : (g.ins.any fun l => !T (absN l)) with
              | true =>
                rw [hq, Bool.true_or] at hA
                rw [hq] at CC
                have e : orderP ins gates = ([], 2) := by unfold orderP; rw [HI.out]; simp only; rw [HG.out]; simp only; rw [if_pos hA]
                have HE := hid e
                clear hA hq e
                go_wp2_with (first | (go_at_call 43; refine CC.mono ?_; rintro e w8 ⟨rfl, hB8⟩) | fail)
                go_ret2
                unfold GatesPostK
                rw [HE.out]
                exact ⟨below_then hBNr hBNr.size hB8, _, rfl, gatesK_none _ _ _⟩
              | false =>
                rw [hq, Bool.false_or] at hA
                rw [hq] at CC
                have HE := hid hA
                clear hA hq
                go_wp2_with (first | (go_at_call 43; refine CC.mono ?_; rintro e w8 ⟨rfl, hB8⟩) | fail)
                go_roundg (gates.length - (j + 1))
                case measure => omega
                case rel => exact ⟨j + 1, by omega, by omega, by go_num, below_then hBNr hBNr.size hB8, HS.out.1.below hB8, HS.out.2.below hB8, ⟨HE.out⟩⟩
            · have hltz : ¬ (j : Int) < (gates.length : Int) := by omega
              have hSt : strangeG T gates = false := by rw [HA.out, List.drop_eq_nil_of_le (by omega)]; rfl
              have HST := hid hSt
              have CL := literals_any (.slice Ag gates.length cg) gates wr (hg0.keep (keeps_below hB)) hl
              clear hSt HA
              by_cases hlong : 200000 < litSum gates
              · have hz : (200000 : Int) < (litSum gates : Int) := by omega
                have e : orderP ins gates = ([], 3) := by unfold orderP; rw [HI.out]; simp only; rw [HG.out]; simp only; rw [if_neg (by rw [HST.out]; simp), if_pos hlong]
                have HE := hid e
                clear hlong e
                go_wp2_with (first | (go_at_call 90; refine CL.mono ?_; rintro e w8 ⟨rfl, hB8⟩) | fail)
                go_ret2
                unfold GatesPostK
                rw [HE.out]
                exact ⟨below_then hB hB.size hB8, _, rfl, gatesK_none _ _ _⟩
              · have hz : ¬ (200000 : Int) < (litSum gates : Int) := by omega
                have e : orderP ins gates = match ordGo gates.length S [] gates with | none => ([], 50) | some out => (out, 0) := by unfold orderP; rw [HI.out]; simp only; rw [HG.out]; simp only; rw [if_neg (by rw [HST.out]; simp), if_neg hlong]; rfl
                have HE := hid e
                clear hlong e
                go_wp2_with (first | (go_at_call 90; refine CL.mono ?_; rintro e w8 ⟨rfl, hB8⟩) | fail)
                have hB08 := below_then hB hB.size hB8
                have hS78 := hS7.below hB8
                have hlt78 := hS78.lt
                have CC := clone_gates (.slice Ag gates.length cg) gates w0 w8 hgw (fun a v hv => keeps_below hB08 a v (hk0 a v hv)) (by omega)
                clear hS6 hS7 hB hB8 CL
                refine CC.mono ?_
                rintro e w9 ⟨vl, rfl, hB9, hRG⟩
                have hB09 := below_then hB08 hB08.size hB9
                have hS79 := hS78.below hB9
                obtain ⟨Al, cl, rfl, hcl1, hcl2⟩ := hRG.len
                obtain ⟨wA, hwA, -, -, zA, hBA, qA⟩ := new_block w9 #[.func (.func 92) #[] #[.pointer (some ⟨w.heap.size + 1, 0, none⟩)]] 99
                have hB0A := below_then hB09 hB09.size hBA
                have hSA := hS79.below hBA
                have hRA := hRG.below hBA
                have hlt7 := hSA.lt
                clear CC hS78 hS79
                have hAl : ∀ n r, (Value.slice Al n cl).ownBlock = some r → w8.heap.size ≤ r ∧ r < w9.heap.size := fun n r hr => hRG.lt (r := r) (by
                  cases Al with
                  | none => simp [Value.ownBlock] at hr
                  | some a => simpa [Value.ownBlock] using hr)
                have hvar : ∀ g ∈ gates, 1 ≤ g.var ∧ g.var ≤ 65536 := addGs_good2 gates HG.out
                have hs8 := hB08.size
                have hs9 := hB9.size
                have hb17 := hlt78
                go_wp2_with fail
                go_loopg [14, 15, 17] gates.length (fun gg s14 s15 _ wr => ∃ (S' : Nat → Bool) (out left : List PGate) (Ao : Option Addr) (co : Nat), left.length ≤ gg ∧ s14 = .slice Ao out.length co ∧ s15 = .slice Al left.length cl ∧ out.length + left.length = gates.length ∧ Below w.heap.size w wr ∧ wA.heap.size ≤ wr.heap.size ∧
                  SetAt wr (w.heap.size + 1) 138 S' ∧ wr.heap[w9.heap.size]? = some (.cells #[.func (.func 92) #[] #[.pointer (some ⟨w.heap.size + 1, 0, none⟩)]] 99 (0, 0)) ∧ RowG w0 wr wA.heap.size (.slice Ao out.length co) out ∧ RowG w0 wr w8.heap.size (.slice Al left.length cl) left ∧ Aside (∀ g ∈ left, 1 ≤ g.var ∧ g.var ≤ 65536) ∧
                  Rem (ordGo gates.length S [] gates) (ordGo left.length S' out left))
                case atStart => exact ⟨S, [], gates, none, 0, Nat.le_refl _, rfl, rfl, by simp, hB0A, Nat.le_refl _, hSA, qA, ⟨[], rfl, World.ownsRow_nil _ _ _ _, fun e he => by cases he⟩, hRA, hvar, ⟨rfl⟩⟩
                case round =>
                  clear hSA qA hRA hvar hB0A hlt7
                  obtain ⟨S', out, left, Ao, co, hg, rfl, rfl, hlen, hB, hsA, hS, hq, hRO, hRL, hvar, HA⟩ := hrel
                  by_cases hlt : 0 < left.length
                  · have hltz : (0 : Int) < (left.length : Int) := by omega
                    have hcl0 := cell_row hq (j := 0) (v := .func (.func 92) #[] #[.pointer (some ⟨w.heap.size + 1, 0, none⟩)]) rfl
                    have CI := indexFunc_gates (readyG S') 95 #[] #[.pointer (some ⟨w9.heap.size, 0, none⟩)] (enters_of Tryz.func95 (by kernel_rfl) rfl) (.slice Al left.length cl) left wr (fun W => Below wr.heap.size wr W) (Below.refl _ _)
                      (fun W hW => (hRL.below hW).at (fun a v hv => keeps_below (below_then hB hB.size hW) a v (hk0 a v hv)))
                      (fun x vi W hx hW hi => (ready73 w9.heap.size (w.heap.size + 1) 138 S' x.var x.kind vi x.ins W (hS.below hW) hi (keeps_below hW _ _ hcl0)).mono fun e W' h => ⟨h.1, below_then hW hW.size h.2⟩)
                    obtain ⟨k, hk⟩ : ∃ k, left.length = k + 1 := ⟨left.length - 1, by omega⟩
                    rcases pick_idx S' left 0 (Int.le_refl _) with ⟨hp1, hp2⟩ | ⟨i, g, hgi, hp2, hp1⟩
                    · rw [hp2] at CI
                      have e : orderP ins gates = ([], 50) := by rw [HE.out, HA.out, ordGo_stop hp1 hk]
                      have HE2 := hid e
                      clear hp1 hp2 hk e
                      go_wp2_with (first | (go_at_call 94; refine CI.mono ?_; rintro e w10 ⟨rfl, hB10⟩) | fail)
                      go_ret2
                      unfold GatesPostK
                      rw [HE2.out]
                      exact ⟨below_then hB hB.size hB10, _, rfl, gatesK_none _ _ _⟩
                    · rw [hp2, Int.zero_add] at CI
                      have hA2 := HA.out.trans (ordGo_step hp1 hk)
                      have hil : i < left.length := (List.getElem?_eq_some_iff.1 hgi).1
                      have hel : (left.eraseIdx i).length = k := by rw [List.length_eraseIdx, if_pos hil]; omega
                      obtain ⟨hg1, hg2⟩ := hvar g (List.mem_of_getElem? hgi)
                      obtain ⟨m, hm⟩ : ∃ m : Nat, g.var = m := Int.eq_ofNat_of_zero_le (by omega)
                      have hm1 : m < 65537 := by omega
                      obtain ⟨eo, ho1, hO, ho3⟩ := hRO
                      obtain ⟨el, hl1, hL, hl3⟩ := hRL
                      obtain ⟨gl, cap', eA, hbl, hll, hcl3⟩ := own_form hL (by omega)
                      obtain ⟨e, he⟩ : ∃ e, el[i]? = some e := ⟨_, List.getElem?_eq_getElem (by rw [← hl1] at hil; simpa using hil)⟩
                      obtain ⟨⟨tv, tk, tA, tn, tc⟩, g'⟩ := e
                      have hgg : g' = g := by
                        rw [← hl1, List.getElem?_map, he] at hgi
                        simpa using hgi
                      subst hgg
                      have hok := hl3 _ (List.mem_of_getElem? he)
                      obtain ⟨o1, o2, o3, o4⟩ := hok
                      simp only at o1 o2 o4
                      have hts : (el.map (·.1))[i]? = some (tv, tk, tA, tn, tc) := by rw [List.getElem?_map, he]; rfl
                      have hlt' : (el.map (·.1)).length = left.length := by rw [← hl1]; simp
                      subst o1 o2
                      have eAl : Al = some ⟨gl, 0, none⟩ := by injection eA
                      subst eAl
                      rw [hm] at hts
                      have hcells : ∀ W, Below wr.heap.size wr W → W.cell? ⟨gl, i * 3, none⟩ = some (.int .i64 (m : Int)) ∧ W.cell? ⟨gl, i * 3 + 1, none⟩ = some (.int .u8 g'.kind) ∧ W.cell? ⟨gl, i * 3 + 2, none⟩ = some (.slice tA tn tc) := fun W hW => by
                        have hLW := hL.kept (grown_of_below hW none) (by simp [Value.ownBlock])
                        have hc : ∀ r, r < 3 → W.cell? ⟨gl, i * 3 + r, none⟩ = (enc3 ((m : Int), g'.kind, tA, tn, tc))[r]? := fun r hr => by
                          rw [hLW.cellAt (i * 3 + r) (by omega), gcells_get _ i r _ hts hr]
                        exact ⟨hc 0 (by omega), hc 1 (by omega), hc 2 (by omega)⟩
                      have hdec : left.length ≤ 9223372036854775807 := by omega
                      have hiz : (i : Int) < (left.length : Int) := by omega
                      have hi0 : decide ((i : Int) < 0) = false := decide_eq_false (by omega)
                      have hwj : IntKind.i64.wrap ((i : Int) + 1) = ((i + 1 : Nat) : Int) := by rw [IntWalk.i64_in _ (by omega)]; omega
                      obtain ⟨jj, hjj⟩ : ∃ jj, i + 1 = jj := ⟨_, rfl⟩
                      rw [hjj] at hwj
                      have hgl7 : gl ≠ w.heap.size + 1 := by omega
                      have hglA : gl < wA.heap.size := by have := (hAl left.length gl rfl).2; omega
                      have hol40 : (out.length + 1) * 40 ≤ 140737488355328 := by omega
                      have HX := hid (And.intro hA2 (And.intro hel (And.intro hl1 (And.intro hl3 (And.intro ho1 (And.intro ho3 (And.intro o3 (And.intro o4 he))))))))
                      have HY := hid (And.intro hk (And.intro hil (And.intro hjj (And.intro hgi (And.intro hlt' (And.intro hm (And.intro hvar hlen)))))))
                      have HL := hid hL
                      clear hp1 hp2 hA2 hel hl1 hl3 ho1 ho3 o3 o4 he hk hgi hts hlt' hm hvar hlen hg1 hg2 eA hL hcl3 hil hjj HA
                      go_wp2_with fail
                      refine CI.mono ?_
                      rintro e w10 ⟨rfl, hB10⟩
                      obtain ⟨c0, c1, c2⟩ := hcells w10 hB10
                      have hS10 := hS.below hB10
                      have hs10 := hB10.size
                      have hcm := hS10.cell m hm1
                      have hfm := hS10.free m
                      have hG11 := grown_setCell w10 ⟨w.heap.size + 1, m, none⟩ (.bool true)
                      have hO10 := hO.kept (grown_of_below hB10 none) (by cases (Value.slice Ao out.length co).ownBlock <;> simp)
                      have hO11 : (w10.setCell ⟨w.heap.size + 1, m, none⟩ (.bool true)).ownsRow wA.heap.size 88 3 (.slice Ao out.length co) out.length (gcells (eo.map (·.1))) := hO10.kept hG11 (by
                        cases hq2 : (Value.slice Ao out.length co).ownBlock with
                        | none => exact .inl rfl
                        | some r => right; intro e; have h1 := (hO10.lt r hq2).1; have h2 := Option.some.inj e; simp only at h2; omega)
                      have hsz11 : (w10.setCell ⟨w.heap.size + 1, m, none⟩ (.bool true)).heap.size = w10.heap.size := by simp
                      have hbaseO : wA.heap.size ≤ (w10.setCell ⟨w.heap.size + 1, m, none⟩ (.bool true)).heap.size := by rw [hsz11]; omega
                      have hS11 := hS10.store m true
                      clear CI hcells hS hO hO10
                      go_wp2_with (first | (at_builtin; refine append_one wA.heap.size rfl _ _ 38 88 (.agg #[.int .i64 0, .int .u8 0, .slice none 0 0]) 3 40 rfl Tryz.underlying38 info70 rfl (by decide) (by decide) (.slice Ao out.length co) out.length (gcells (eo.map (·.1))) #[.int .i64 (m : Int), .int .u8 g'.kind, .slice tA tn tc] rfl (by rw [hsz11]; rfl) rfl (by intro u hu; simp at hu; rcases hu with rfl | rfl | rfl <;> rfl) hO11 hbaseO hol40 ?_; intro g2 cap2 w12 hO12 hG12 hg12 hbg12 hlt12) | fail)
                      have hL10 := HL.out.kept (grown_of_below hB10 none) (by simp [Value.ownBlock])
                      have hL11 := hL10.kept hG11 (by right; simp only [Value.ownBlock]; intro e; have := Option.some.inj e; omega)
                      have hL12 := hL11.kept hG12 (by
                        cases hq2 : (Value.slice Ao out.length co).ownBlock with
                        | none => right; simp [Value.ownBlock]
                        | some r => right; simp only [Value.ownBlock]; intro e; have := Option.some.inj e; have h1 := (hO11.lt r hq2).1; omega)
                      obtain ⟨hk, hil, hjj, hgi, hlt', hmv, hvar, hlen⟩ := HY.out
                      have CD := delete_any w8.heap.size gl left.length k cl i jj (el.map (·.1)) w12 hL12 (by rw [hlt']) hk hjj.symm (by omega)
                      clear hk hil hjj hgi hlt' hmv hvar hlen hL10 hL11 hL12
                      go_wp2_with (first | (go_at_call 96; refine CD.mono ?_; rintro e w13 ⟨rfl, hG13, hL13⟩) | fail)
                      obtain ⟨hA2, hel, hl1, hl3, ho1, ho3, o3, o4, he⟩ := HX.out
                      obtain ⟨hk, hil, -, -, -, hmv, hvar, hlen⟩ := HY.out
                      have hs12 := hG12.size
                      have hB011 : Below w.heap.size w (w10.setCell ⟨w.heap.size + 1, m, none⟩ (.bool true)) := (below_then hB hB.size hB10).setCell (p := ⟨w.heap.size + 1, m, none⟩) (by simp) _
                      have hB012 := hB011.grown hG12 hB011.size (fun r e => by have := (hO11.lt r e).1; omega)
                      have hB013 := hB012.grown hG13 hB012.size (fun r e => by have := Option.some.inj e; omega)
                      have hs13 := hG13.size
                      have hno12 : ∀ r, r < wA.heap.size → (Value.slice Ao out.length co).ownBlock ≠ some r := fun r hr e => by have := (hO11.lt r e).1; omega
                      have hS13 := (hS11.kept hG12 (fun e => hno12 _ (by omega) e)).kept hG13 (by intro e; have := Option.some.inj e; omega)
                      have hgl9 := (hAl left.length gl rfl).2
                      have hq10 := row_below hq hB10
                      have hq11 := row_grown hq10 hG11 (by intro e; have e' : w.heap.size + 1 = w9.heap.size := Option.some.inj e; omega)
                      have hq13 := row_grown (row_grown hq11 hG12 (fun e => hno12 _ (by omega) e)) hG13 (by intro e; have := Option.some.inj e; omega)
                      have hO13 := hO12.kept hG13 (by right; simp only [Value.ownBlock]; intro e; have := Option.some.inj e; omega)
                      have hFIN := hid (And.intro hA2 (And.intro hel (And.intro hl1 (And.intro hl3 (And.intro ho1 (And.intro ho3 (And.intro o3 (And.intro o4 he))))))))
                      go_roundg k
                      case measure => omega
                      case rel =>
                        refine ⟨upd S' m true, out ++ [g'], left.eraseIdx i, some ⟨g2, 0, none⟩, cap2, by omega, by simp, by rw [hel], by rw [List.length_append, hel]; simp; omega, hB013, by omega, hS13, hq13, ?_, ?_, fun g hg => hvar g (List.mem_of_mem_eraseIdx hg), ⟨by rw [hA2, hel, hmv, Int.toNat_natCast]⟩⟩
                        · refine ⟨eo ++ [(((m : Int), g'.kind, tA, tn, tc), g')], by rw [List.map_append, ho1]; rfl, ?_, fun e hee => ?_⟩
                          · have e2 : gcells ((eo ++ [(((m : Int), g'.kind, tA, tn, tc), g')]).map (·.1)) = gcells (eo.map (·.1)) ++ (#[Value.int .i64 (m : Int), .int .u8 g'.kind, .slice tA tn tc] : Array Value).toList := by
                              rw [List.map_append, gcells_append]; rfl
                            rw [e2]
                            simpa using hO13
                          · rcases List.mem_append.1 hee with hee | hee
                            · exact ho3 e hee
                            · rw [List.mem_singleton] at hee
                              subst hee
                              exact ⟨hmv.symm, rfl, o3, o4⟩
                        · refine ⟨el.eraseIdx i, by rw [map_erase, hl1], ?_, fun e hee => hl3 e (List.mem_of_mem_eraseIdx hee)⟩
                          rw [map_erase, hel]
                          exact hL13
                  · have hltz : ¬ (0 : Int) < (left.length : Int) := by omega
                    have hl0 : left = [] := List.eq_nil_of_length_eq_zero (by omega)
                    have e : orderP ins gates = (out, 0) := by rw [HE.out, HA.out, hl0]; rfl
                    have HE2 := hid e
                    have HRO := hid hRO
                    clear hl0 e
                    go_wp2_with fail
                    go_ret2
                    unfold GatesPostK
                    rw [HE2.out]
                    exact ⟨hB, _, rfl, HRO.out.lower (by omega)⟩
end Go.Proofs.YtnlobmepajakcaaGreatDoor
