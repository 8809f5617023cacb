/- What Compose's inner functions do: a literal's new name, and a gate with new names that is appended; the conditions: the names lie within 65,536, the gate's literals are at most 2^40. -/
import Derived.Test.YtnlobmepajakcaaCof
import Derived.Test.YtnlobmepajakcaaSemC
set_option linter.unusedVariables false
set_option linter.unusedSimpArgs false
namespace Go.Proofs.Ytnlobmepajakcaa
open Go.RowKit Go.Shelf

def toV (to : Int → Option Int) : Int → Option Value := fun k => (to k).map (fun x => .int .i64 x)
def ToB (to : Int → Option Int) : Prop := ∀ k x, to k = some x → -65536 ≤ x ∧ x ≤ 65536
set_option maxHeartbeats 2000000 in
theorem name_any (B r : Nat) (to : Int → Option Int) (l : Int) (w : World) (hc : w.cell? ⟨B, 0, none⟩ = some (.map (some r))) (hm : IntMap w r (toV to)) (hb : ToB to) :
    Calls Try.prog 58 #[.int .i64 l, .pointer (some ⟨B, 0, none⟩)] w fun e w' => e = .returned (.int .i64 (nameP to l)) ∧ ∃ n, w' = w.drewN n := by
  have hl := run_lookup_ok (P := Try.prog) (w := w.drew) Try.underlying101 Try.underlying3 Try.zeroValue3 (hm.heap rfl : IntMap w.drew r (toV to)) (absI l)
  have hc1 : w.drew.cell? ⟨B, 0, none⟩ = some (.map (some r)) := hc
  have CA : ∀ W, Calls Try.prog 59 #[.int .i64 l] W fun e w' => e = .returned (.int .i64 (absI l)) ∧ w' = W := fun W => by
    have := abs_any l W
    rwa [← absI_N] at this
  unfold nameP
  unfold toV at hl
  have hb2 := hb (absI l)
  clear hm hb hc
  revert hl CA hb2
  generalize absI l = q
  intro hl CA hb2
  cases ht : to q with
  | none =>
    rw [ht] at hl
    simp only [Option.map_none, Option.getD_none, Option.isSome_none] at hl
    clear hb2 ht
    go_enter Try.func58, Try.ntmps58
    go_wp2_with fail
    go_region_held3 (fun w' => w'.cell? ⟨B, 0, none⟩ = some (.map (some r)) ∧ (Instr.lookup 101 (.map (some r)) (.int .i64 q) true).run Try.prog w' = .ok (.tuple #[.int .i64 0, .bool false]) w') (exact ⟨hc1, hl⟩) (first | (go_at_call 59; refine (CA _).mono ?_; rintro e w' ⟨rfl, rfl⟩))
    all_goals (go_wp2_with fail; go_ret; exact ⟨rfl, 1, rfl⟩)
  | some x =>
    rw [ht] at hl
    obtain ⟨hx1, hx2⟩ := hb2 x ht
    simp only [Option.map_some, Option.getD_some, Option.isSome_some] at hl
    clear hb2 ht
    have hwn : IntKind.i64.wrap (-x) = -x := IntWalk.i64_in _ (by omega)
    by_cases h0 : l < 0
    · have e : (if l < 0 then -x else x) = -x := if_pos h0
      simp only [e]
      clear e
      go_enter Try.func58, Try.ntmps58
      go_wp2_with fail
      go_region_held3 (fun w' => w'.cell? ⟨B, 0, none⟩ = some (.map (some r)) ∧ (Instr.lookup 101 (.map (some r)) (.int .i64 q) true).run Try.prog w' = .ok (.tuple #[.int .i64 x, .bool true]) w') (exact ⟨hc1, hl⟩) (first | (go_at_call 59; refine (CA _).mono ?_; rintro e w' ⟨rfl, rfl⟩))
      all_goals (go_wp2_with fail; go_ret; exact ⟨rfl, 1, rfl⟩)
    · have e : (if l < 0 then -x else x) = x := if_neg h0
      have h1 : decide (l < 0) = false := decide_eq_false h0
      simp only [e]
      clear e h0
      go_enter Try.func58, Try.ntmps58
      go_wp2_with fail
      go_region_held3 (fun w' => w'.cell? ⟨B, 0, none⟩ = some (.map (some r)) ∧ (Instr.lookup 101 (.map (some r)) (.int .i64 q) true).run Try.prog w' = .ok (.tuple #[.int .i64 x, .bool true]) w') (exact ⟨hc1, hl⟩) (first | (go_at_call 59; refine (CA _).mono ?_; rintro e w' ⟨rfl, rfl⟩))
      all_goals (go_wp2_with fail; go_ret; exact ⟨rfl, 1, rfl⟩)

/-! ### A gate with new names -/
set_option maxHeartbeats 4000000 in
theorem addG_any (B14 B13 B15 r : Nat) (to : Int → Option Int) (x : Int) (g : PGate) (vi : Value) (vp : Value) (o : Int) (base : Nat) (out : List PGate) (vo : Value) (w : World) (hi : IntsAt w vi g.ins)
    (hk : 0 ≤ g.kind ∧ g.kind ≤ 255) (hx : I64 x) (hn : g.ins.length ≤ 200000) (hout : out.length ≤ 1000000)
    (h14 : w.cell? ⟨B14, 0, none⟩ = some (.func (.func 58) #[] #[.pointer (some ⟨B13, 0, none⟩)])) (h13 : w.cell? ⟨B13, 0, none⟩ = some (.map (some r))) (hm : IntMap w r (toV to)) (hb : ToB to)
    (hli : ∀ l ∈ g.ins, -65536 ≤ l ∧ l ≤ 65536)
    (h15 : w.heap[B15]? = some (.cells #[vp, vo, .int .i64 o] 25 (0, 0))) (h15b : B15 < base) (hS : StayAt w base vo out) (hbs : base ≤ w.heap.size) :
    Calls Try.prog 61 #[.int .i64 x, .agg #[.int .i64 g.var, .int .u8 g.kind, vi], .pointer (some ⟨B14, 0, none⟩), .pointer (some ⟨B15, 0, none⟩)] w fun e w' => e = .returned (.tuple #[]) ∧
      ∃ vo', w'.heap[B15]? = some (.cells #[vp, vo', .int .i64 o] 25 (0, 0)) ∧ StayAt w' base vo' (out ++ [nameG to x g]) ∧ w.heap.size ≤ w'.heap.size ∧ w'.os = w.os ∧ w'.tape = w.tape ∧ w'.output = w.output ∧ ∀ k, k < w.heap.size → k ≠ B15 → vo.ownBlock ≠ some k → w'.heap[k]? = w.heap[k]? := by
  obtain ⟨Ai, ci, rfl, hli1, hci⟩ := hi.form
  obtain ⟨Ao, co, rfl, hlo1, hco⟩ := hS.form
  obtain ⟨w1, hw1, hc1, -, hz1, hB1, hrow1⟩ := new_block w #[.int .i64 g.var, .int .u8 g.kind, .slice Ai g.ins.length ci] 70
  obtain ⟨w2, hw2, hc2, -, hz2, hB2, hrow2⟩ := new_block w1 (madeCells #[.int .i64 0] g.ins.length) 3
  have hB02 := below_then hB1 hB1.size hB2
  have hmk := make26 g.ins.length (by omega) w1
  rw [hw2] at hmk
  have k0 : w2.cell? ⟨w.heap.size, 0, none⟩ = some (.int .i64 g.var) := keeps_below hB2 _ _ (hc1 0 _ rfl)
  have k1 : w2.cell? ⟨w.heap.size, 1, none⟩ = some (.int .u8 g.kind) := keeps_below hB2 _ _ (hc1 1 _ rfl)
  have k2 : w1.cell? ⟨w.heap.size, 2, none⟩ = some (.slice Ai g.ins.length ci) := hc1 2 _ rfl
  have k2' := keeps_below hB2 _ _ k2
  rw [hz1] at hrow2 hz2 hmk
  have F3 : w2.ownsRow (w.heap.size + 1) 3 1 (.slice (some ⟨w.heap.size + 1, 0, none⟩) g.ins.length g.ins.length) g.ins.length (halfRow g.ins.length []) :=
    ⟨by rw [half_len (Nat.zero_le _), Nat.mul_one], .inr ⟨w.heap.size + 1, g.ins.length, madeCells #[.int .i64 0] g.ins.length, rfl, Nat.le_refl _, hrow2, Nat.le_refl _, by simp only [maxLen]; omega, by rw [made_size, Nat.mul_one], by
      rw [← half_start, List.take_of_length_le (by simp [made_size])]⟩⟩
  clear hc1 hc2
  go_enter Try.func61, Try.ntmps61
  go_wp2_with fail
  go_loopg [7, 8, 16] g.ins.length (fun gg _ _ s16 wr => ∃ j : Nat, j ≤ g.ins.length ∧ g.ins.length - j ≤ gg ∧ s16 = .int .i64 j ∧ w2.grownBy wr (some (w.heap.size + 1)) ∧
    wr.ownsRow (w.heap.size + 1) 3 1 (.slice (some ⟨w.heap.size + 1, 0, none⟩) g.ins.length g.ins.length) g.ins.length (halfRow g.ins.length ((g.ins.take j).map (nameP to))))
  case atStart => exact ⟨0, Nat.zero_le _, by omega, rfl, World.grownBy.refl _ _, F3⟩
  case round =>
    obtain ⟨j, hj, hgj, rfl, hG, hO⟩ := hrel
    clear F3 hmk k2 k2'
    have hBr : Below w.heap.size w wr := hB02.grown hG hB02.size (fun r e => by injection e with e; omega)
    have m14 := keeps_below hBr _ _ h14
    by_cases hlt : j < g.ins.length
    · obtain ⟨y, hy, hym, hyd⟩ := nth hlt
      obtain ⟨b, off, rfl, hcy, -⟩ := (hi.keep (keeps_below hBr)).at_ j y hy
      have hltz : (j : Int) < (g.ins.length : Int) := by omega
      have hj0 : 0 ≤ (j : Int) := by omega
      have CN := name_any B13 r to y wr (keeps_below hBr _ _ h13) (hm.below hBr) hb
      have htk2 : (g.ins.take (j + 1)).map (nameP to) = (g.ins.take j).map (nameP to) ++ [nameP to y] := by rw [take_snoc hy, List.map_append]; rfl
      have hlj : ((g.ins.take j).map (nameP to)).length = j := by simp; omega
      have HTK := hid htk2
      have HLJ := hid hlj
      clear htk2 hlj hy hyd
      revert CN HTK
      generalize nameP to y = my
      intro CN HTK
      have hcj : ∃ u, wr.cell? ⟨w.heap.size + 1, j, none⟩ = some (.int .i64 u) := by
        refine ⟨(((g.ins.take j).map (nameP to) ++ List.replicate (g.ins.length - ((g.ins.take j).map (nameP to)).length) 0)[j]?).getD 0, ?_⟩
        rw [hO.cellAt j (by omega)]
        unfold halfRow nums
        rw [List.getElem?_map, HLJ.out, List.getElem?_append_right (by rw [HLJ.out]; exact Nat.le_refl _), HLJ.out, Nat.sub_self, List.getElem?_replicate, if_pos (by omega)]
        rfl
      obtain ⟨u, hcu⟩ := hcj
      have hfu := hO.frozenAt j
      have HO := hid hO
      clear hO
      go_wp2_with (go_at_call 58; refine CN.mono ?_; rintro e W3 ⟨rfl, nq, rfl⟩; have hcu' : (wr.drewN nq).cell? ⟨w.heap.size + 1, j, none⟩ = some (.int .i64 u) := hcu; have hfu' : (wr.drewN nq).frozen? ⟨w.heap.size + 1, j, none⟩ = false := hfu)
      go_roundg (g.ins.length - (j + 1))
      case measure => omega
      case rel =>
        have h3 := ((drewN_own HO.out nq).stored j (.int .i64 my)).1
        refine ⟨j + 1, by omega, by omega, by go_num, (hG.trans (grown_of_below (below_drewN (Below.refl _ _) nq) _)).trans (grown_setCell _ _ _), ?_⟩
        have e := half_set (n := g.ins.length) (ys := (g.ins.take j).map (nameP to)) (by rw [HLJ.out]; exact hlt) my
        rw [HLJ.out] at e
        rw [e] at h3
        rw [HTK.out]
        exact h3
    · have hltz : ¬ (j : Int) < (g.ins.length : Int) := by omega
      have hfull : halfRow g.ins.length ((g.ins.take j).map (nameP to)) = nums (g.ins.map (nameP to)) := by
        rw [List.take_of_length_le (by omega : g.ins.length ≤ j)]
        have := half_full (g.ins.map (nameP to))
        rwa [List.length_map] at this
      rw [hfull] at hO
      have hI : IntsAt wr (.slice (some ⟨w.heap.size + 1, 0, none⟩) (nameG to x g).ins.length g.ins.length) (nameG to x g).ins := by
        have h2 := ints_of_own hO (fun y hy => by
          obtain ⟨l, hl, rfl⟩ := List.mem_map.1 hy
          have h3 := hli l hl
          unfold nameP I64
          cases hq : to (absI l) with
          | none => simp only; omega
          | some z => have := hb _ _ hq; simp only; split <;> omega) (by omega)
        have e : (nameG to x g).ins.length = g.ins.length := by simp [nameG]
        rw [e]; exact h2
      have hSr := hS.below hBr
      obtain ⟨xs, hxs⟩ := hSr.row
      have n15 := row_below h15 hBr
      have d0 := hG.cell k1 (by intro e; injection e with e; have e' : w.heap.size = w.heap.size + 1 := e; omega)
      have x1 := cell_row n15 (j := 1) (v := .slice Ao out.length co) rfl
      have hbr : base ≤ wr.heap.size := Nat.le_trans hbs hBr.size
      have hb40 : (out.length + 1) * 40 ≤ 140737488355328 := by omega
      have hown : ∀ b, (Value.slice Ao out.length co).ownBlock = some b → base ≤ b := fun b hb => (hxs.lt b hb).1
      have HS := hid hS
      have HSR := hid hSr
      have HI := hid hI
      have HO := hid hO
      have hsr := hBr.size
      have hgs := hG.size
      clear hfull hS hSr hI hO
      go_wp2_with (at_builtin; refine append_one base rfl _ _ 23 70 (.agg #[.int .i64 0, .int .u8 0, .slice none 0 0]) 3 40 rfl Try.underlying23 info70 rfl (by decide) (by decide) (.slice Ao out.length co) out.length xs #[.int .i64 x, .int .u8 g.kind, .slice (some ⟨w.heap.size + 1, 0, none⟩) g.ins.length g.ins.length] rfl rfl rfl (by intro u hu; simp at hu; rcases hu with rfl | rfl | rfl <;> rfl) hxs hbr hb40 ?_; intro g2 cap2 w4 hO4 hG4 hg4 hbg hlt4; have R15 := row_grown n15 hG4 (fun e => by have := hown B15 e; omega); have x1' := cell_row R15 (j := 1) (v := .slice Ao out.length co) rfl; have xf := frozen_of_row _ B15 1 _ _ R15)
      go_end0
      have hpush : StayAt w4 base (.slice (some ⟨g2, 0, none⟩) (out.length + 1) cap2) (out ++ [nameG to x g]) :=
        StayAt.push (x := nameG to x g) (vo1 := .slice (some ⟨g2, 0, none⟩) (out.length + 1) cap2) HSR.out (Below.refl _ wr) ⟨hx, hk.1, hk.2⟩ HI.out (fun hp b hbb => by
            injection hbb with hbb
            have hb' : w.heap.size + 1 = b := hbb
            refine ⟨fun e => ?_, by omega, by omega⟩
            obtain ⟨xs0, hxs0⟩ := HS.out.row
            have := (hxs0.lt b e).2
            omega) (fun ys hys => by
            have e := own_unique hys hxs
            rw [e]
            have e2 : (nameG to x g).ins.length = g.ins.length := by simp [nameG]
            rw [e2]; exact hO4) hG4 (fun b hbb => by
            injection hbb with hbb
            have hb' : g2 = b := hbb
            rw [← hb']; exact hg4)
      have hset := grown_setCell w4 ⟨B15, 1, none⟩ (.slice (some ⟨g2, 0, none⟩) (out.length + 1) cap2)
      have hz4 := hG4.size
      have hz5 := hset.size
      refine ⟨rfl, .slice (some ⟨g2, 0, none⟩) (out.length + 1) cap2, row_set R15 _, hpush.grown hset (fun r e => by injection e with e; have e' : B15 = r := e; omega), by omega, ?_, ?_, ?_, fun k hk1 hk2 hk3 => ?_⟩
      · exact hset.os.trans (hG4.os.trans hBr.os)
      · exact hset.tape.trans (hG4.tape.trans hBr.tape)
      · exact hset.output.trans (hG4.output.trans hBr.output)
      · exact (hset.block k (by omega) (by intro e; injection e with e; exact hk2 e)).trans ((hG4.block k (by omega) (fun e => hk3 e.symm)).trans (hBr.block k (by omega)))
end Go.Proofs.Ytnlobmepajakcaa
