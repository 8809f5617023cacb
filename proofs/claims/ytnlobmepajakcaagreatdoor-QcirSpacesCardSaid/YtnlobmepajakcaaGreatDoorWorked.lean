/- What circ.worked and circ.Eval do; the condition: gates have at most 2^62 literals. -/
import Derived.Test.YtnlobmepajakcaaGreatDoorLeaf
import Derived.Test.YtnlobmepajakcaaGreatDoorTools
set_option linter.unusedVariables false
set_option linter.unusedSimpArgs false
namespace Go.Proofs.YtnlobmepajakcaaGreatDoor
open Go.RowKit Go.Shelf

def valsA (S V : Nat → Bool) : List Int → Nat → Bool
  | [] => V
  | l :: ls => valsA S (upd V (absN l) (decide (0 < l) && S (absN l))) ls
def valsG (V : Nat → Bool) : List PGate → Nat → Bool
  | [] => V
  | g :: gs => valsG (upd V g.var.toNat (gateV V g.kind g.ins)) gs
/-- The variables of a prefix. -/
def preS (N : PNet) : Nat → Bool := (prefFrom none 0 noS N.pre).getD noS
/-- The values of all variables. -/
def valsP (N : PNet) (a : List Int) : Nat → Bool := valsG (valsA (preS N) noS a) N.gates

theorem mayGates_all {gs : List PGate} : ∀ {S S' : Nat → Bool}, mayGates S gs = some S' → ∀ g ∈ gs, shapedB g.kind g.ins.length = true ∧ 1 ≤ g.var ∧ g.var ≤ 65536 := by
  induction gs with
  | nil => intro S S' _ g hg; cases hg
  | cons x gs ih =>
    intro S S' h g hg
    unfold mayGates at h
    by_cases h1 : shapedB x.kind x.ins.length = false
    · rw [if_pos h1] at h; cases h
    · rw [if_neg h1] at h
      by_cases h2 : (x.ins.any fun l => !S (absN l)) = true
      · rw [if_pos h2] at h; cases h
      · rw [if_neg h2] at h
        by_cases h3 : addB S x.var = true
        · rw [if_pos h3] at h
          cases hg with
          | head =>
            simp only [addB, Bool.and_eq_true, decide_eq_true_eq] at h3
            exact ⟨by simpa using h1, h3.1.1, h3.1.2⟩
          | tail _ hg => exact ih h g hg
        · rw [if_neg h3] at h; cases h
theorem mayP_pre {N : PNet} (h : mayP N = true) : prefFrom none 0 noS N.pre = some (preS N) ∧ litSum N.gates ≤ 200000 ∧ ∃ S, mayGates (preS N) N.gates = some S ∧ S (absN N.out) = true := by
  unfold mayP at h
  cases hm : mayS N with
  | none => rw [hm] at h; cases h
  | some S' =>
    rw [hm] at h
    unfold mayS at hm
    cases hp : prefFrom none 0 noS N.pre with
    | none => rw [hp] at hm; cases hm
    | some S =>
      have e : preS N = S := by unfold preS; rw [hp]; rfl
      rw [hp] at hm
      simp only at hm
      by_cases h2 : 200000 < litSum N.gates
      · rw [if_pos h2] at hm; cases hm
      · rw [if_neg h2] at hm
        rw [e]
        exact ⟨rfl, by omega, S', hm, h⟩
theorem mayP_gates {N : PNet} (h : mayP N = true) : ∀ g ∈ N.gates, shapedB g.kind g.ins.length = true ∧ 1 ≤ g.var ∧ g.var ≤ 65536 := by
  obtain ⟨_, _, S, hS, _⟩ := mayP_pre h
  exact mayGates_all hS

theorem new_set (w : World) (t : TypeId) : ∃ w1, w.alloc (.cells Tryz.zeroCells138 t) = w1 ∧ SetAt w1 w.heap.size t noS ∧ w1.heap.size = w.heap.size + 1 ∧ Below w.heap.size w w1 :=
  ⟨_, rfl, set_new w t, World.size_alloc _ _, (Below.refl _ w).alloc (Nat.le_refl _) _⟩
theorem new_set127 (w : World) (t : TypeId) : ∃ w1, w.alloc (.cells Tryz.zeroCells145 t) = w1 ∧ SetAt w1 w.heap.size t noS ∧ w1.heap.size = w.heap.size + 1 ∧ Below w.heap.size w w1 :=
  ⟨_, rfl, set_new127 w t, World.size_alloc _ _, (Below.refl _ w).alloc (Nat.le_refl _) _⟩

theorem step_build127 {ops : Array Oper} {rest : List Oper} {Q : Exit → Act → World → Prop} {a : Act} {w : World} {d : Nat} {ty : TypeId} {pos : String} {after : Array Edge}
    (h : wpList Tryz.prog ops Q rest (a.put (some d) (.agg Tryz.zeroCells145)) w) : wpList Tryz.prog ops Q ({ dst := some d, op := .build 145 #[], type := ty, pos, after, guard := none } :: rest) a w := by
  refine wpList_plain rfl fun K hK => ?_
  unfold Oper.wp
  have e : (execOp a.eval { dst := some d, op := .build 145 #[], type := ty, pos, after, guard := none }).run Tryz.prog w = .ok (.value (.agg Tryz.zeroCells145)) w := by
    unfold execOp
    simp only [go_sem, Array.map_empty]
    simp only [Sem.run_bind, Tryz.zeroValue145, Result.andThen_ok, run_underlying Tryz.underlying145, Tryz.sizeOf4, Sem.run_pure]
  rw [e, Oper.upon_value]
  exact hK _ _ h
theorem step_box127 {ops : Array Oper} {rest : List Oper} {Q : Exit → Act → World → Prop} {a : Act} {w : World} {d i : Nat} {ty : TypeId} {pos : String} {after : Array Edge}
    (hi : a.tmps.getD i undef = .agg Tryz.zeroCells145)
    (h : wpList Tryz.prog ops Q rest (a.put (some d) (.pointer (some ⟨w.heap.size, 0, none⟩))) (w.alloc (.cells Tryz.zeroCells145 145))) : wpList Tryz.prog ops Q ({ dst := some d, op := .box 145 (.tmp i), type := ty, pos, after, guard := none } :: rest) a w := by
  refine wpList_plain rfl fun K hK => ?_
  unfold Oper.wp
  have e : (execOp a.eval { dst := some d, op := .box 145 (.tmp i), type := ty, pos, after, guard := none }).run Tryz.prog w = .ok (.value (.pointer (some ⟨w.heap.size, 0, none⟩))) (w.alloc (.cells Tryz.zeroCells145 145)) := by
    unfold execOp Act.eval
    simp only [hi, Instr.box, newVar, newRow, Value.cells]
    simp only [Sem.run_bind, run_newObj_alloc, Result.andThen_ok, Sem.run_pure]
  rw [e, Oper.upon_value]
  exact hK _ _ h

theorem step_new127 {ops : Array Oper} {rest : List Oper} {Q : Exit → Act → World → Prop} {a : Act} {w : World} {d d2 : Nat} {ty ty2 : TypeId} {pos pos2 : String} {after after2 : Array Edge}
    (hd : d < a.tmps.size)
    (h : ∀ u, wpList Tryz.prog ops Q rest ((a.put (some d) u).put (some d2) (.pointer (some ⟨w.heap.size, 0, none⟩))) (w.alloc (.cells Tryz.zeroCells145 145))) :
    wpList Tryz.prog ops Q ({ dst := some d, op := .build 145 #[], type := ty, pos, after, guard := none } :: { dst := some d2, op := .box 145 (.tmp d), type := ty2, pos := pos2, after := after2, guard := none } :: rest) a w := by
  refine step_build127 (step_box127 ?_ (h _))
  unfold Act.put
  simp only
  rw [Array.getD_eq_getD_getElem?, Array.getElem?_setIfInBounds_self_of_lt hd]
  rfl

/-- What worked hands back. -/
def WorkedPost (N : PNet) (a : List Int) (w : World) (e : Ending) (w' : World) : Prop :=
  Below w.heap.size w w' ∧ (((mayP N && normFrom 0 a) = false ∧ e = .returned (.tuple #[.pointer none, .int .i64 2])) ∨
    ((mayP N && normFrom 0 a) = true ∧ ∃ b, e = .returned (.tuple #[.pointer (some ⟨b, 0, none⟩), .int .i64 0]) ∧ SetAt w' b 145 (valsP N a)))

set_option maxHeartbeats 4000000 in
set_option maxRecDepth 100000 in
theorem worked_any (v va : Value) (N : PNet) (a : List Int) (w : World) (h : NetAt w v N) (ha : IntsAt w va a) (hl : litSum N.gates ≤ 4611686018427387904) :
    Calls Tryz.prog 59 #[v, va] w (WorkedPost N a w) := by
  obtain ⟨vp, vg, rfl, ho, hp, hgt⟩ := h
  obtain ⟨Aa, ca, rfl, hla, hca⟩ := SlAt.form ha
  have hlena : a.length ≤ 9223372036854775807 := by omega
  obtain ⟨W1, hW1, hc1, hf1, hz1, hB1, hh1⟩ := new_block w #[vp, vg, .int .i64 N.out] 40
  have C1 := May_any (.agg #[vp, vg, .int .i64 N.out]) N W1 ⟨vp, vg, rfl, ho, hp.keep (keeps_below hB1), hgt.keep (keeps_below hB1)⟩ hl
  have hc10 : W1.cell? ⟨w.heap.size, 0, none⟩ = some vp := hc1 0 _ rfl
  have hc11 : W1.cell? ⟨w.heap.size, 1, none⟩ = some vg := hc1 1 _ rfl
  have hc12 : W1.cell? ⟨w.heap.size, 2, none⟩ = some (.int .i64 N.out) := hc1 2 _ rfl
  have HZ1 := hid hz1
  clear hz1 hc1
  cases hm : mayP N with
  | false =>
    rw [hm] at C1
    have HM := hid hm
    clear hm
    go_enter Tryz.func59, Tryz.ntmps59
    go_wp2_with fail
    refine C1.mono ?_
    rintro e w2 ⟨rfl, hB2⟩
    go_wp2_with fail
    go_ret2
    exact ⟨below_then hB1 hB1.size hB2, .inl ⟨by rw [HM.out]; rfl, rfl⟩⟩
  | true =>
    rw [hm] at C1
    have HM := hid hm
    clear hm
    have C2 : ∀ w2, Below W1.heap.size W1 w2 → Calls Tryz.prog 102 #[.slice Aa a.length ca] w2 fun e w' => e = .returned (.bool (normFrom 0 a)) ∧ w' = w2 :=
      fun w2 hB2 => normal_any _ a w2 (ha.keep ((keeps_below hB1).trans (keeps_below hB2)))
    cases hn : normFrom 0 a with
    | false =>
      rw [hn] at C2
      have HN := hid hn
      clear hn
      go_enter Tryz.func59, Tryz.ntmps59
      go_wp2_with fail
      refine C1.mono ?_
      rintro e w2 ⟨rfl, hB2⟩
      go_wp2_with fail
      refine (C2 w2 hB2).mono ?_
      rintro e w3 ⟨rfl, rfl⟩
      go_wp2_with fail
      go_ret2
      exact ⟨below_then hB1 hB1.size hB2, .inl ⟨by rw [HN.out]; simp, rfl⟩⟩
    | true =>
      rw [hn] at C2
      have HN := hid hn
      clear hn
      go_enter Tryz.func59, Tryz.ntmps59
      go_wp2_with fail
      refine C1.mono ?_
      rintro e w2 ⟨rfl, hB2⟩
      go_wp2_with fail
      refine (C2 w2 hB2).mono ?_
      rintro e w3 ⟨rfl, rfl⟩
      obtain ⟨hpre, hlit, -⟩ := mayP_pre HM.out
      have hgs := mayP_gates HM.out
      have hB3 := below_then hB1 hB1.size hB2
      obtain ⟨W4, hW4, hS4, hz4, hB4⟩ := new_set w3 138
      have hB5 := below_then hB3 hB3.size hB4
      have C3 := prefix_any w3.heap.size 138 noS vp N.pre W4 w hp hB5 hB3.size hS4
      rw [hpre] at C3
      have hr4 := row_below (row_below hh1 hB2) hB4
      have hc40 := cell_row hr4 (j := 0) rfl
      have HB := hid (row_lt (row_below hh1 hB2))
      clear C1 C2 hW1 hc10 hc11 hc12 hf1 hpre
      go_wp2_with fail
      refine C3.mono ?_
      rintro e w5 ⟨rfl, hG5, S5, hS5, hSS⟩
      obtain rfl := hSS _ rfl
      obtain ⟨W6, hW6, hV6, hz6, hB6⟩ := new_set127 w5 145
      go_wp2_with ((with_reducible refine step_new127 ?_ (fun u24 => ?_)); simp only [List.size_toArray, List.length_cons, List.length_nil]; omega)
      have hr6 := row_below (row_grown hr4 hG5 (by have := HB.out; simp; omega)) hB6
      have hS6 := hS5.below hB6
      have hBx : Below w.heap.size w W6 := below_then (hB5.grown hG5 hB5.size (fun q e => by cases e; exact hB3.size)) (by have := hG5.size; have := hB5.size; omega) hB6
      have hlt6 := hV6.lt
      have hlt7 := hS5.lt
      clear hG5 hr4 hc40 hB6 hB5 hS4 C3 hh1 hW4 hW6 hB4 hS5
      go_loopg [9, 28] a.length (fun gg _ s28 wr => ∃ (k : Nat) (Vc : Nat → Bool), k ≤ a.length ∧ a.length - k ≤ gg ∧ s28 = .int .i64 k ∧ W6.grownBy wr (some w5.heap.size) ∧ SetAt wr w5.heap.size 145 Vc ∧
        Rem (valsA (preS N) noS a) (valsA (preS N) Vc (a.drop k)))
      case atStart => exact ⟨0, noS, Nat.zero_le _, by omega, rfl, World.grownBy.refl _ _, hV6, ⟨rfl⟩⟩
      case round =>
        obtain ⟨k, Vc, hk, hg, rfl, hG, hV, HA⟩ := hrel
        by_cases hlt : k < a.length
        · obtain ⟨x, hx, hmem, hd⟩ := nth hlt
          have hBr : Below w.heap.size w wr := hBx.grown hG hBx.size (fun q e => by cases e; have := HB.out; omega)
          obtain ⟨b, off, rfl, hc0, -⟩ := (ha.keep (keeps_below hBr)).at_ k x hx
          have hltz : (k : Int) < (a.length : Int) := by omega
          have HD := hid hd
          have hSr := hS6.kept hG (by simp; omega)
          have Ca : ∀ W, Calls Tryz.prog 103 #[.int .i64 x] W fun e w' => e = .returned (.int .i64 (absN x : Int)) ∧ w' = W := fun W => abs_any x W
          have Ch : ∀ p, Calls Tryz.prog 89 #[.pointer (some ⟨w3.heap.size, 0, none⟩), .int .i64 x] (since wr p) fun e w' => e = .returned (.bool (preS N (absN x))) ∧ Below (since wr p).heap.size (since wr p) w' :=
            fun p => (has_any _ 138 (preS N) x _ (hSr.below (since_below wr p))).mono fun e w' ⟨he, n, hw⟩ => ⟨he, by rw [hw]; exact below_drewN (Below.refl _ _) n⟩
          have Ca' : ∀ p, Calls Tryz.prog 103 #[.int .i64 x] (since wr p) fun e w' => e = .returned (.int .i64 (absN x : Int)) ∧ Below (since wr p).heap.size (since wr p) w' :=
            fun p => (Ca _).mono fun e w' ⟨he, hw⟩ => ⟨he, by rw [hw]; exact Below.refl _ _⟩
          have hq := absN_lt x
          have HA2 : Rem (valsA (preS N) noS a) (valsA (preS N) (upd Vc (absN x) (decide (0 < x) && preS N (absN x))) (a.drop (k + 1))) := ⟨by rw [HA.out, HD.out, valsA]⟩
          clear hd hx HA Ca
          revert Ca' Ch hq HA2
          generalize absN x = q
          generalize preS N q = y
          intro Ch Ca hq HA2
          by_cases hx0 : 0 < x
          · go_wp2_with fail
            refine region_tail 11 (by kernel_rfl) (by kernel_rfl) ?_
            simp only [List.take_succ_cons, List.take_zero, List.drop_succ_cons, List.drop_zero]
            repeat (first | go_big_quiet_step ((first | (go_at_call 103; exact calls_since (Ca _)) | (go_at_call 89; exact calls_since (Ch _)))) | quiet_step ((first | (go_at_call 103; exact calls_since (Ca _)) | (go_at_call 89; exact calls_since (Ch _)))))
            refine wpQuiet_nil ?_
            rintro W ⟨pw, hW⟩
            have hBW : Below wr.heap.size wr W := by rw [hW]; exact since_below wr pw
            have hVW := hV.below hBW
            have hcW := hVW.cell q hq
            have hfW := hVW.free q
            have hGW := hG.trans (grown_of_below hBW (some w5.heap.size))
            have HVW := hid hVW
            clear hW hV hVW hq Ca Ch
            go_wp2_with fail
            go_roundg (a.length - (k + 1))
            case measure => omega
            case rel => exact ⟨k + 1, _, by omega, by omega, by go_num, hGW.trans (grown_setCell _ _ _), HVW.out.store q _, ⟨by rw [HA2.out, decide_eq_true hx0, Bool.true_and]⟩⟩
          · have hx1 : decide (0 < x) = false := decide_eq_false hx0
            go_wp2_with fail
            refine region_tail 11 (by kernel_rfl) (by kernel_rfl) ?_
            simp only [List.take_succ_cons, List.take_zero, List.drop_succ_cons, List.drop_zero]
            repeat (first | go_big_quiet_step ((first | (go_at_call 103; exact calls_since (Ca _)) | (go_at_call 89; exact calls_since (Ch _)))) | quiet_step ((first | (go_at_call 103; exact calls_since (Ca _)) | (go_at_call 89; exact calls_since (Ch _)))))
            refine wpQuiet_nil ?_
            rintro W ⟨pw, hW⟩
            have hBW : Below wr.heap.size wr W := by rw [hW]; exact since_below wr pw
            have hVW := hV.below hBW
            have hcW := hVW.cell q hq
            have hfW := hVW.free q
            have hGW := hG.trans (grown_of_below hBW (some w5.heap.size))
            have HVW := hid hVW
            clear hW hV hVW hq Ca Ch
            go_wp2_with fail
            go_roundg (a.length - (k + 1))
            case measure => omega
            case rel => exact ⟨k + 1, _, by omega, by omega, by go_num, hGW.trans (grown_setCell _ _ _), HVW.out.store q _, ⟨by rw [HA2.out, show decide (0 < x) = false from decide_eq_false (by omega), Bool.false_and]⟩⟩
        · have hltz : ¬ (k : Int) < (a.length : Int) := by omega
          have hV1 : SetAt wr w5.heap.size 145 (valsA (preS N) noS a) := by
            have e : valsA (preS N) noS a = Vc := by rw [HA.out, List.drop_eq_nil_of_le (by omega)]; rfl
            rw [e]; exact hV
          have hBr : Below w.heap.size w wr := hBx.grown hG hBx.size (fun q e => by cases e; have := HB.out; omega)
          have hr7 := row_grown hr6 hG (by simp; have := HB.out; omega)
          have hlt8 := hV1.lt
          clear hV HA hG hV6 hS6 hr6 hBx
          have C4 := evaluators_any wr
          go_wp2_with fail
          refine C4.mono ?_
          rintro e w8 ⟨rfl, hB8⟩
          have hr8 := row_below hr7 hB8
          have hV8 := hV1.below hB8
          have hB9 := below_then hBr hBr.size hB8
          have hc81 : w8.cell? ⟨w.heap.size, 1, none⟩ = some vg := cell_row hr8 rfl
          obtain ⟨Ag, cg, rfl, hlg, hcg⟩ := SlAt.form hgt
          have hlg2 : N.gates.length ≤ 9223372036854775807 := by omega
          obtain ⟨W9, hW9, hc9, hf9, hz9, hB10, hh9⟩ := new_block w8 #[.nilFunc, .func (.func 133) #[] #[], .func (.func 135) #[] #[], .func (.func 136) #[] #[], .func (.func 137) #[] #[]] 147
          have hc91 := keeps_below hB10 _ _ hc81
          go_wp2_with fail
          have hV9 := hV8.below hB10
          have hlt9 := hV9.lt
          have HW8 := hid (hV8.lt)
          have hB11 := below_then hB9 hB9.size hB10
          have HZ9 := hid hz9
          clear hc9 hf9 hc91 hc81 hB8 hr7 hr8 hV1 hV8 hW9 C4 hB10 hz9 hBr hz6 hz4
          go_loopg [12, 48] N.gates.length (fun gg _ s48 wr => ∃ (k : Nat) (Vc : Nat → Bool), k ≤ N.gates.length ∧ N.gates.length - k ≤ gg ∧ s48 = .int .i64 k ∧ W9.grownBy wr (some w5.heap.size) ∧ SetAt wr w5.heap.size 145 Vc ∧
            Rem (valsP N a) (valsG Vc (N.gates.drop k)))
          case atStart => exact ⟨0, _, Nat.zero_le _, by omega, rfl, World.grownBy.refl _ _, hV9, ⟨rfl⟩⟩
          case round =>
            obtain ⟨m, Vc, hm, hgm, rfl, hG, hV, HA⟩ := hrel
            by_cases hltm : m < N.gates.length
            · obtain ⟨x, hx, hmem, hd⟩ := nth hltm
              have hBr : Below w.heap.size w wr := hB11.grown hG hB11.size (fun q e => by cases e; have := HB.out; omega)
              obtain ⟨b, off, vi, rfl, hc0, hc1, hc2, hi, -, -, -⟩ := (hgt.keep (keeps_below hBr)).at_ m x hx
              obtain ⟨Ai, ci, rfl, hli, hci⟩ := SlAt.form hi
              have hltz : (m : Int) < (N.gates.length : Int) := by omega
              obtain ⟨hsh, hv1, hv2⟩ := hgs x hmem
              have hrow := row_grown hh9 hG (by simp; have := HW8.out; omega)
              obtain ⟨wg, hwg, hcg', hfg, hzg, hBg, hhg⟩ := new_block wr #[.int .i64 x.var, .int .u8 x.kind, .slice Ai x.ins.length ci] 88
              have hVg := hV.below hBg
              have hig := hi.keep (keeps_below hBg)
              have hrowg := row_below hrow hBg
              obtain ⟨kk, g, hkk, hkk1, hkk5, hg, eg, hcf⟩ : ∃ kk g : Nat, x.kind = kk ∧ 1 ≤ kk ∧ kk < 5 ∧ evalF x.kind = g ∧ (∀ args w, (callFunc g args).run Tryz.prog w = .ok (.enter g args) w) ∧
                  #[Value.nilFunc, .func (.func 133) #[] #[], .func (.func 135) #[] #[], .func (.func 136) #[] #[], .func (.func 137) #[] #[]][kk]? = some (.func (.func g) #[] #[]) := by
                unfold shapedB at hsh
                by_cases h1 : x.kind = 1
                · exact ⟨1, 133, h1, by omega, by omega, by unfold evalF; rw [if_pos h1], enters_of Tryz.func133 (by kernel_rfl) rfl, rfl⟩
                · by_cases h2 : x.kind = 2
                  · exact ⟨2, 135, h2, by omega, by omega, by unfold evalF; rw [if_neg h1, if_pos h2], enters_of Tryz.func135 (by kernel_rfl) rfl, rfl⟩
                  · by_cases h3 : x.kind = 3
                    · exact ⟨3, 136, h3, by omega, by omega, by unfold evalF; rw [if_neg h1, if_neg h2, if_pos h3], enters_of Tryz.func136 (by kernel_rfl) rfl, rfl⟩
                    · by_cases h4 : x.kind = 4
                      · exact ⟨4, 137, h4, by omega, by omega, by unfold evalF; rw [if_neg h1, if_neg h2, if_neg h3], enters_of Tryz.func137 (by kernel_rfl) rfl, rfl⟩
                      · simp [if_neg h1, if_neg h2, if_neg h3, if_neg h4] at hsh
              have Cg : ∀ p, Calls Tryz.prog g #[.pointer (some ⟨w5.heap.size, 0, none⟩), .slice Ai x.ins.length ci] (since wg p) fun e w' => e = .returned (.bool (gateV Vc x.kind x.ins)) ∧ Below (since wg p).heap.size (since wg p) w' :=
                fun p => by rw [← hg]; exact evalF_any _ 145 Vc _ x.kind x.ins _ (hVg.below (since_below wg p)) (hig.keep (keeps_below (since_below wg p))) hsh
              have HA2 : Rem (valsP N a) (valsG (upd Vc x.var.toNat (gateV Vc x.kind x.ins)) (N.gates.drop (m + 1))) := ⟨by rw [HA.out, hd, valsG]⟩
              have hp0 : ∀ p, (since wg p).cell? ⟨wr.heap.size, 0, none⟩ = some (.int .i64 x.var) := fun p => cell_since (cell_row hhg rfl) p
              have hp1 : ∀ p, (since wg p).cell? ⟨wr.heap.size, 1, none⟩ = some (.int .u8 x.kind) := fun p => cell_since (cell_row hhg rfl) p
              have hp2 : ∀ p, (since wg p).cell? ⟨wr.heap.size, 2, none⟩ = some (.slice Ai x.ins.length ci) := fun p => cell_since (cell_row hhg rfl) p
              have hpf : ∀ p, (since wg p).cell? ⟨w8.heap.size, kk, none⟩ = some (.func (.func g) #[] #[]) := fun p => cell_since (cell_row hrowg hcf) p
              have hGg := hG.trans (grown_of_below hBg (some w5.heap.size))
              obtain ⟨q, hq⟩ := Int.eq_ofNat_of_zero_le (show 0 ≤ x.var by omega)
              have hq1 : q < 65537 := by omega
              have HK := hid hkk
              rw [hkk] at hc1 hp1 hwg
              rw [hq] at hc0 hp0 hwg HA2
              rw [Int.toNat_natCast] at HA2
              revert Cg HA2
              generalize gateV Vc x.kind x.ins = y
              intro Cg HA2
              clear hd hx HA hcg' hfg hzg hhg hrow hrowg hgs hsh hv1 hv2 hg hcf hkk hq hi hig hBr hG hV
              go_wp2_with fail
              refine region_tail 13 (by kernel_rfl) (by kernel_rfl) ?_
              simp only [List.take_succ_cons, List.take_zero, List.drop_succ_cons, List.drop_zero]
              repeat (first | go_big_quiet_step ((go_at_fn g; exact calls_since (Cg _))) | quiet_step ((go_at_fn g; exact calls_since (Cg _))))
              refine wpQuiet_nil ?_
              rintro W ⟨pw, hW⟩
              have hBW : Below wg.heap.size wg W := by rw [hW]; exact since_below wg pw
              have hVW := hVg.below hBW
              have hcW := hVW.cell q hq1
              have hfW := hVW.free q
              have hGW := hGg.trans (grown_of_below hBW (some w5.heap.size))
              have HVW := hid hVW
              clear hW hVg hVW hq1 Cg hp0 hp1 hp2 hpf hc0 hc1 hc2
              go_wp2_with fail
              go_roundg (N.gates.length - (m + 1))
              case measure => omega
              case rel => exact ⟨m + 1, _, by omega, by omega, by go_num, hGW.trans (grown_setCell _ _ _), HVW.out.store q _, HA2⟩
            · have hltz : ¬ (m : Int) < (N.gates.length : Int) := by omega
              go_wp2_with fail
              go_ret2
              refine ⟨hB11.grown hG hB11.size (fun q e => by cases e; have := HB.out; omega), .inr ⟨by rw [HM.out, HN.out]; rfl, w5.heap.size, rfl, ?_⟩⟩
              have e : valsP N a = Vc := by rw [HA.out, List.drop_eq_nil_of_le (by omega)]; rfl
              rw [e]; exact hV

/-- What Eval says. -/
def evalP (N : PNet) (a : List Int) : Bool × Int := if (mayP N && normFrom 0 a) = true then (holdsV (valsP N a) N.out, 0) else (false, 2)
set_option maxHeartbeats 1000000 in
theorem Eval_any (v va : Value) (N : PNet) (a : List Int) (w : World) (h : NetAt w v N) (ha : IntsAt w va a) (hl : litSum N.gates ≤ 4611686018427387904) :
    Calls Tryz.prog 26 #[v, va] w fun e w' => e = .returned (.tuple #[.bool (evalP N a).1, .int .i64 (evalP N a).2]) ∧ Below w.heap.size w w' := by
  obtain ⟨vp, vg, rfl, ho, hp, hgt⟩ := h
  obtain ⟨W1, hW1, hc1, hf1, hz1, hB1, hh1⟩ := new_block w #[vp, vg, .int .i64 N.out] 40
  have C1 := worked_any (.agg #[vp, vg, .int .i64 N.out]) va N a W1 ⟨vp, vg, rfl, ho, hp.keep (keeps_below hB1), hgt.keep (keeps_below hB1)⟩ (ha.keep (keeps_below hB1)) hl
  have hc10 : W1.cell? ⟨w.heap.size, 0, none⟩ = some vp := hc1 0 _ rfl
  have hc11 : W1.cell? ⟨w.heap.size, 1, none⟩ = some vg := hc1 1 _ rfl
  have hc12 : W1.cell? ⟨w.heap.size, 2, none⟩ = some (.int .i64 N.out) := hc1 2 _ rfl
  clear hc1 hf1 hz1 hh1
  cases hm : (mayP N && normFrom 0 a) with
  | false =>
    have e : evalP N a = (false, 2) := by unfold evalP; rw [if_neg (by rw [hm]; simp)]
    rw [e]
    have HM := hid hm
    clear hm e
    go_enter Tryz.func26, Tryz.ntmps26
    go_wp2_with fail
    refine C1.mono ?_
    rintro e w2 ⟨hB2, ⟨-, rfl⟩ | ⟨h, -⟩⟩
    · go_wp2_with fail
      go_ret2
      exact ⟨rfl, below_then hB1 hB1.size hB2⟩
    · rw [HM.out] at h; cases h
  | true =>
    have e : evalP N a = (holdsV (valsP N a) N.out, 0) := by unfold evalP; rw [if_pos hm]
    rw [e]
    have HM := hid hm
    clear hm e
    go_enter Tryz.func26, Tryz.ntmps26
    go_wp2_with fail
    refine C1.mono ?_
    rintro e w2 ⟨hB2, ⟨h, -⟩ | ⟨-, b, rfl, hV⟩⟩
    · rw [HM.out] at h; cases h
    · have C2 := of_any b 145 (valsP N a) N.out w2 hV
      have hc22 := keeps_below hB2 _ _ hc12
      generalize hr : holdsV (valsP N a) N.out = r at C2
      have HR := hid hr
      clear hV hr
      go_wp2_with fail
      refine C2.mono ?_
      rintro e w3 ⟨rfl, n, rfl⟩
      go_wp2_with fail
      go_ret2
      exact ⟨by rw [HR.out]; rfl, below_drewN (below_then hB1 hB1.size hB2) n⟩
end Go.Proofs.YtnlobmepajakcaaGreatDoor
