/- What great of qcir's laws does; the condition: gates have at most 2^62 literals. -/
import Derived.Test.YtnlobmepajakcaaGreatDoorWk
set_option linter.unusedVariables false
set_option linter.unusedSimpArgs false
namespace Go.Proofs.YtnlobmepajakcaaGreatDoor
open Go.RowKit Go.Shelf
attribute [local go_sem] Oper.semAt_some

def greatB (N : PNet) : Bool := decide (300 < N.gates.length) || decide (1500 < litSum N.gates)
theorem litSum_bnd {B : Nat} : ∀ {gs : List PGate}, (∀ g ∈ gs, g.ins.length ≤ B) → litSum gs ≤ gs.length * B
  | [], _ => Nat.zero_le _
  | g :: gs, h => by
    have h1 := litSum_bnd (gs := gs) (fun g hg => h g (.tail _ hg))
    have h2 := h g (.head _)
    simp only [litSum, List.length_cons, Nat.add_mul, Nat.one_mul]; omega
set_option maxRecDepth 100000 in
set_option maxHeartbeats 2000000 in
theorem great_any (v : Value) (N : PNet) (w : World) (h : NetAt w v N) (hb : ∀ g ∈ N.gates, g.ins.length ≤ 17592186044416) :
    Calls Tryz.prog 20 #[v] w fun e w' => e = .returned (.bool (greatB N)) ∧ Below w.heap.size w w' := by
  obtain ⟨vp, vg, rfl, ho, hp, hg⟩ := h
  obtain ⟨Ap, cp, rfl, -, -⟩ := hp.form
  obtain ⟨Ag, cg, rfl, hlg, hcg⟩ := hg.form
  obtain ⟨w1, hw1, -, -, hz1, hB1, q1⟩ := new_block w #[.slice Ap N.pre.length cp, .slice Ag N.gates.length cg, .int .i64 N.out] 40
  have c1 : w1.cell? ⟨w.heap.size, 1, none⟩ = some (.slice Ag N.gates.length cg) := cell_row q1 (j := 1) rfl
  have hG1 := hg.keep (keeps_below hB1)
  clear hp hg
  by_cases hlong : 300 < N.gates.length
  · have HG : greatB N = true := by unfold greatB; rw [decide_eq_true hlong]; rfl
    have HG := hid HG
    have hq : (300 : Int) < (N.gates.length : Int) := by omega
    have HQ := hid hq
    clear hlong hq
    go_enter Tryz.func20, Tryz.ntmps20
    go_wp2_with fail
    clear c1
    go_loopg [3, 9] N.gates.length (fun gg s3 s9 wr => ∃ (j : Nat) (z : Int), j ≤ N.gates.length ∧ N.gates.length - j ≤ gg ∧ s3 = .int .i64 z ∧ s9 = .int .i64 (j : Int) ∧ Below w1.heap.size w1 wr)
    case atStart => exact ⟨0, 0, Nat.zero_le _, by omega, rfl, rfl, Below.refl _ _⟩
    case round =>
      obtain ⟨j, z, hj, hgg, rfl, rfl, hB⟩ := hrel
      by_cases hlt : j < N.gates.length
      · have hltz : (j : Int) < (N.gates.length : Int) := by omega
        obtain ⟨x, hxj, hxm, -⟩ := nth hlt
        obtain ⟨bg, og, vi, rfl, k0, k1, k2, hi, -, -, -⟩ := hG1.at_ j x hxj
        obtain ⟨Ai, ci, rfl, hli, hci⟩ := hi.form
        replace k0 := keeps_below hB _ _ k0
        replace k1 := keeps_below hB _ _ k1
        replace k2 := keeps_below hB _ _ k2
        obtain ⟨w9, hw9, -, -, hz9, hB9, q9⟩ := new_block wr #[.int .i64 x.var, .int .u8 x.kind, .slice Ai x.ins.length ci] 88
        have c92 := cell_row q9 (j := 2) (v := .slice Ai x.ins.length ci) rfl
        clear hxj hxm hi q9
        go_wp2_with fail
        go_roundg (N.gates.length - (j + 1))
        case measure => omega
        case rel => exact ⟨j + 1, _, by omega, by omega, rfl, by first | rfl | go_num | exact congrArg (Value.int .i64) (by omega), below_then hB hB.size hB9⟩
      · have hltz : ¬ (j : Int) < (N.gates.length : Int) := by omega
        have c1 : wr.cell? ⟨w.heap.size, 1, none⟩ = some (.slice Ag N.gates.length cg) := cell_row (row_below q1 hB) (j := 1) rfl
        have hBB := below_then hB1 hB1.size hB
        have hq := HQ.out
        go_wp2_with fail
        go_ret
        exact ⟨by first | rfl | (rw [HG.out]; rfl), hBB⟩
  have hl : litSum N.gates ≤ 4611686018427387904 := by
    have h1 := litSum_bnd hb
    have h2 := Nat.mul_le_mul_right 17592186044416 (show N.gates.length ≤ 300 by omega)
    omega
  go_enter Tryz.func20, Tryz.ntmps20
  go_wp2_with fail
  clear c1
  go_loopg [3, 9] N.gates.length (fun gg s3 s9 wr => ∃ j : Nat, j ≤ N.gates.length ∧ N.gates.length - j ≤ gg ∧ s3 = .int .i64 (litSum (N.gates.take j) : Int) ∧ s9 = .int .i64 (j : Int) ∧ Below w1.heap.size w1 wr)
  case atStart => exact ⟨0, Nat.zero_le _, by omega, rfl, rfl, Below.refl _ _⟩
  case round =>
    obtain ⟨j, hj, hgg, rfl, rfl, hB⟩ := hrel
    by_cases hlt : j < N.gates.length
    · have hltz : (j : Int) < (N.gates.length : Int) := by omega
      obtain ⟨x, hxj, hxm, -⟩ := nth hlt
      obtain ⟨bg, og, vi, rfl, k0, k1, k2, hi, -, -, -⟩ := hG1.at_ j x hxj
      obtain ⟨Ai, ci, rfl, hli, hci⟩ := hi.form
      replace k0 := keeps_below hB _ _ k0
      replace k1 := keeps_below hB _ _ k1
      replace k2 := keeps_below hB _ _ k2
      have hts := litSum_take hxj
      have htl : litSum (N.gates.take (j + 1)) ≤ litSum N.gates := by
        have := litSum_append (N.gates.take (j + 1)) (N.gates.drop (j + 1))
        rw [List.take_append_drop] at this
        omega
      rw [hts] at htl
      have HTS := hid hts
      obtain ⟨w9, hw9, -, -, hz9, hB9, q9⟩ := new_block wr #[.int .i64 x.var, .int .u8 x.kind, .slice Ai x.ins.length ci] 88
      have c92 := cell_row q9 (j := 2) (v := .slice Ai x.ins.length ci) rfl
      have hwr : IntKind.i64.wrap ((litSum (N.gates.take j) : Int) + (x.ins.length : Int)) = (litSum (N.gates.take j) : Int) + (x.ins.length : Int) := IntWalk.i64_in _ (by omega)
      clear hts hxj hxm hi q9
      go_wp2_with fail
      go_roundg (N.gates.length - (j + 1))
      case measure => omega
      case rel => exact ⟨j + 1, by omega, by omega, by rw [HTS.out, Int.natCast_add], by first | rfl | go_num | exact congrArg (Value.int .i64) (by omega), below_then hB hB.size hB9⟩
    · have hltz : ¬ (j : Int) < (N.gates.length : Int) := by omega
      rw [List.take_of_length_le (by omega : N.gates.length ≤ j)]
      have c1 : wr.cell? ⟨w.heap.size, 1, none⟩ = some (.slice Ag N.gates.length cg) := cell_row (row_below q1 hB) (j := 1) rfl
      have hBB := below_then hB1 hB1.size hB
      cases hd : decide ((300 : Int) < (N.gates.length : Int)) with
      | true =>
        have HG : greatB N = true := by
          have := of_decide_eq_true hd
          unfold greatB; rw [decide_eq_true (by omega)]; rfl
        have HG := hid HG
        go_wp2_with fail
        go_ret
        exact ⟨by first | rfl | (rw [HG.out]; rfl), hBB⟩
      | false =>
        have h3 := of_decide_eq_false hd
        cases hd2 : decide ((1500 : Int) < (litSum N.gates : Int)) with
        | true =>
          have HG : greatB N = true := by
            have := of_decide_eq_true hd2
            unfold greatB; rw [decide_eq_true (p := 1500 < litSum N.gates) (by omega), Bool.or_true]
          have HG := hid HG
          clear h3
          go_wp2_with fail
          go_ret
          exact ⟨by first | rfl | (rw [HG.out]; rfl), hBB⟩
        | false =>
          have h4 := of_decide_eq_false hd2
          have HG : greatB N = false := by
            unfold greatB; rw [decide_eq_false (by omega), decide_eq_false (by omega)]; rfl
          have HG := hid HG
          clear h3 h4
          go_wp2_with fail
          go_ret
          exact ⟨by first | rfl | (rw [HG.out]; rfl), hBB⟩
theorem great_no {N : PNet} (h : greatB N = false) : N.gates.length ≤ 300 ∧ litSum N.gates ≤ 1500 := by
  unfold greatB at h
  simp only [Bool.or_eq_false_iff, decide_eq_false_iff_not] at h
  omega
end Go.Proofs.YtnlobmepajakcaaGreatDoor
