/- What the laws of qcir's helpers fails, works and great do: works returns true; no condition. -/
import Derived.Test.YtnlobmepajakcaaGreatDoorZPrB
import Derived.Test.YtnlobmepajakcaaGreatDoorZRdR
import Derived.Test.YtnlobmepajakcaaGreatDoorZRef
set_option linter.unusedVariables false
set_option linter.unusedSimpArgs false
namespace Go.Proofs.YtnlobmepajakcaaGreatDoor
open Go.RowKit Go.Shelf
attribute [local go_sem] Oper.semAt_some

def wkS : Bs := [35, 81, 67, 73, 82, 45, 49, 52, 10, 101, 120, 105, 115, 116, 115, 40, 49, 44, 32, 50, 41, 10, 102, 111, 114, 97, 108, 108, 40, 51, 41, 10, 111, 117, 116, 112, 117, 116, 40, 45, 53, 41, 10, 52, 32, 61, 32, 97, 110, 100, 40, 49, 44, 32, 45, 51, 41, 10, 53, 32, 61, 32, 120, 111, 114, 40, 52, 44, 32, 50, 41, 10]
def wkT : Bs := [32, 102, 114, 101, 101, 32, 40, 32, 50, 32, 41, 10, 101, 120, 105, 115, 116, 115, 40, 49, 41, 10, 111, 117, 116, 112, 117, 116, 40, 50, 41]
def wkN : PNet := ⟨[⟨true, [1, 2]⟩, ⟨false, [3]⟩], [⟨4, 1, [1, -3]⟩, ⟨5, 3, [4, 2]⟩], -5⟩
def wkM : PNet := ⟨[⟨true, [2, 1]⟩], [], 2⟩
theorem readS : readP wkS = (wkN, 0, 0) := by decide +kernel
theorem printS : printP wkN = (wkS, 0) := by decide +kernel
theorem readT : readP wkT = (wkM, 0, 0) := by decide +kernel
def wkF0 : Bs := [111, 117, 116, 112, 117, 116, 40, 49, 41]
theorem readF0 : readP wkF0 = (noNet, 1, 6) := by decide +kernel
def wkF1 : Bs := [101, 120, 105, 115, 116, 115, 40, 49, 41, 10, 111, 117, 116, 112, 117, 116, 40, 48, 49, 41, 10]
theorem readF1 : readP wkF1 = (noNet, 2, 5) := by decide +kernel
def wkF2 : Bs := [101, 120, 105, 115, 116, 115, 40, 49, 44, 32, 49, 41]
theorem readF2 : readP wkF2 = (noNet, 1, 7) := by decide +kernel
def wkF3 : Bs := [111, 117, 116, 112, 117, 116, 40, 52, 41, 10, 52, 32, 61, 32, 111, 114, 40, 53, 41, 10, 53, 32, 61, 32, 111, 114, 40, 52, 41]
theorem readF3 : readP wkF3 = (noNet, 0, 50) := by decide +kernel
def wkF4 : Bs := [111, 117, 116, 112, 117, 116, 40, 52, 41, 10, 52, 32, 61, 32, 120, 111, 114, 40, 41]
theorem readF4 : readP wkF4 = (noNet, 2, 2) := by decide +kernel
theorem ints_row {w : World} {g : Nat} {xs : List Int} {n : Nat} (h : w.heap[g]? = some (.cells (nums xs).toArray 3 (0, 0))) (hn : xs.length = n) (hx : ∀ x ∈ xs, I64 x) (hm : n ≤ 9223372036854775807) : IntsAt w (.slice (some ⟨g, 0, none⟩) n n) xs :=
  ⟨some ⟨g, 0, none⟩, n, by rw [hn], by omega, hm, fun _ => ⟨g, 0, rfl, fun j x hj => ⟨by
    refine cell_row h ?_
    rw [List.getElem?_toArray, Nat.zero_add, Nat.mul_one]
    unfold nums
    rw [List.getElem?_map, hj]; rfl, hx x (List.mem_of_getElem? hj)⟩⟩⟩
theorem i64s {xs : List Int} (h : xs.all (fun x => decide (-70000 ≤ x ∧ x ≤ 70000)) = true) : ∀ x ∈ xs, I64 x := fun x hx => by
  have := List.all_eq_true.1 h x hx
  have := of_decide_eq_true this
  unfold I64; omega
theorem net_parts {w : World} {v : Value} {N : PNet} (h : NetAt w v N) : ∃ Ap cp Ag cg, v = .agg #[.slice Ap N.pre.length cp, .slice Ag N.gates.length cg, .int .i64 N.out] := by
  obtain ⟨vp, vg, rfl, ho, hp, hg⟩ := h
  obtain ⟨Ap, cp, rfl, _, _⟩ := hp.form
  obtain ⟨Ag, cg, rfl, _, _⟩ := hg.form
  exact ⟨_, _, _, _, rfl⟩
set_option maxRecDepth 100000 in
set_option maxHeartbeats 2000000 in
theorem fails_any (s : Bs) (line : Nat) (e : Int) (w : World) (hr : readP s = (noNet, line, e)) (hl : s.length ≤ 4611686018427387904) (hE : Env w) :
    Calls Tryz.prog 30 #[.string ⟨s.toArray⟩, .int .i64 (line : Int), .int .i64 e] w fun r w' => r = .returned (.bool true) ∧ Below w.heap.size w w' := by
  have CR := Read_any s w hE hl
  rw [hr] at CR
  clear hr
  go_enter Tryz.func30, Tryz.ntmps30
  go_wp2_with fail
  refine CR.mono ?_
  rintro r w1 ⟨hB1, vn, rfl, hN⟩
  obtain ⟨Ap, cp, Ag, cg, rfl⟩ := net_parts hN
  have e1 : noNet.pre.length = 0 := rfl
  have e2 : noNet.gates.length = 0 := rfl
  obtain ⟨z, hz⟩ : ∃ z, noNet.out = z := ⟨_, rfl⟩
  have hzz : (z == 0) = true := by rw [← hz]; rfl
  rw [e1, e2, hz]
  obtain ⟨w2, hw2, -, -, hz2, hB2, q2⟩ := new_block w1 #[.slice Ap 0 cp, .slice Ag 0 cg, .int .i64 z] 40
  have c0 := cell_row q2 (j := 0) (v := .slice Ap 0 cp) rfl
  have c1 := cell_row q2 (j := 1) (v := .slice Ag 0 cg) rfl
  have c2 := cell_row q2 (j := 2) (v := .int .i64 z) rfl
  clear e1 e2 hz hN CR
  go_wp2_with fail
  go_ret
  exact ⟨rfl, below_then hB1 hB1.size hB2⟩
set_option maxRecDepth 100000 in
set_option maxHeartbeats 400000 in
theorem works_any (w : World) (hE : Env w) : Calls Tryz.prog 11 #[] w fun r w' => r = .returned (.bool true) ∧ Below w.heap.size w w' := by
  have CR := Read_any wkS w hE (by decide)
  rw [readS] at CR
  go_enter Tryz.func11, Tryz.ntmps11
  go_wp2_with fail
  generalize hbw : ({ data := ([35, 81, 67, 73, 82, 45, 49, 52, 10, 101, 120, 105, 115, 116, 115, 40, 49, 44, 32, 50, 41, 10, 102, 111, 114, 97, 108, 108, 40, 51, 41, 10, 111, 117, 116, 112].append [117, 116, 40, 45, 53, 41, 10, 52, 32, 61, 32, 97, 110, 100, 40, 49, 44, 32, 45, 51, 41, 10, 53, 32, 61, 32, 120, 111, 114, 40, 52, 44, 32, 50, 41, 10]).toArray } : ByteArray) = bw
  have hbe : (⟨wkS.toArray⟩ : ByteArray) = bw := hbw
  rw [hbe] at CR
  refine (show ∀ X : ByteArray, X = bw → Calls Tryz.prog 17 #[.string X] w _ from ?_) _ hbw
  intro X hX
  rw [hX]
  clear hX X
  refine CR.mono ?_
  rintro r w1 ⟨hB1, vn, rfl, hN⟩
  obtain ⟨Ap, cp, Ag, cg, rfl⟩ := net_parts hN
  have hE1 := hE.below hB1 hE.size
  have CP0 := fun (W : World) (hW : Below w1.heap.size w1 W) => Print_any _ wkN W (hN.keep (keeps_below hW)) (by decide) (hE1.below hW hE1.size)
  rw [printS, hbe] at CP0
  rw [show wkN.pre.length = 2 from rfl, show wkN.gates.length = 2 from rfl, show wkN.out = -5 from rfl] at CP0 ⊢
  obtain ⟨w2, hw2, -, -, hz2, hB2, q2⟩ := new_block w1 #[.slice Ap 2 cp, .slice Ag 2 cg, .int .i64 (-5)] 40
  have CP := CP0 w2 hB2
  have c0 := cell_row q2 (j := 0) (v := .slice Ap 2 cp) rfl
  have c1 := cell_row q2 (j := 1) (v := .slice Ag 2 cg) rfl
  have c2 := cell_row q2 (j := 2) (v := .int .i64 (-5)) rfl
  clear CP0 hN CR hbw
  go_wp2_with fail
  refine CP.mono ?_
  rintro r w3 ⟨rfl, hB3⟩
  have hB13 := below_then (below_then hB1 hB1.size hB2) (by have := hB1.size; omega) hB3
  have CT := Read_any wkT w3 (hE.below hB13 hE.size) (by decide)
  rw [readT] at CT
  clear CP
  go_wp2_with fail
  refine CT.mono ?_
  rintro r w4 ⟨hB4, vm, rfl, hM⟩
  have hB14 := below_then hB13 hB13.size hB4
  have hE4 := hE.below hB14 hE.size
  obtain ⟨vp, vg, rfl, -, hp, hg⟩ := hM
  obtain ⟨Amg, cmg, rfl, -, -⟩ : ∃ A c, vg = .slice A 0 c ∧ 0 ≤ c ∧ c ≤ 9223372036854775807 := hg.form
  obtain ⟨Amp, cmp, rfl, -, -⟩ : ∃ A c, vp = .slice A 1 c ∧ 1 ≤ c ∧ c ≤ 9223372036854775807 := hp.form
  obtain ⟨bp, off, vi, rfl, k0, k1, hi⟩ := BlocksAt.at_ hp 0 ⟨true, [2, 1]⟩ rfl
  obtain ⟨Ai, ci, rfl, -, -⟩ : ∃ A c, vi = .slice A 2 c ∧ 2 ≤ c ∧ c ≤ 9223372036854775807 := hi.form
  rw [Nat.zero_mul, Nat.add_zero] at k0 k1
  rw [show wkM.out = 2 from rfl]
  obtain ⟨w5, hw5, -, -, hz5, hB5, q5⟩ := new_block w4 #[.slice (some ⟨bp, off, none⟩) 1 cmp, .slice Amg 0 cmg, .int .i64 2] 40
  have q25 := row_below (row_below (row_below q2 hB3) hB4) hB5
  have c20 := cell_row q25 (j := 1) (v := .slice Ag 2 cg) rfl
  have c22 := cell_row q25 (j := 2) (v := .int .i64 (-5)) rfl
  have d0 := cell_row q5 (j := 0) (v := .slice (some ⟨bp, off, none⟩) 1 cmp) rfl
  have d2 := cell_row q5 (j := 2) (v := .int .i64 2) rfl
  replace k0 : w5.cell? ⟨bp, off, none⟩ = some (.bool true) := keeps_below hB5 _ _ k0
  replace k1 : w5.cell? ⟨bp, off + 1, none⟩ = some (.slice Ai 2 ci) := keeps_below hB5 _ _ k1
  obtain ⟨w6, hw6, -, -, hz6, hB6, q6⟩ := new_block w5 #[.int .i64 2, .int .i64 1] 3
  rw [hz5] at hz6 q6
  have d26 := keeps_below hB6 _ _ d2
  have CI := Ints_any _ _ [2, 1] [2, 1] w6 (hi.keep ((keeps_below hB5).trans (keeps_below hB6))) (ints_row (n := 2) q6 rfl (i64s rfl) (by omega))
  rw [show decide (([2, 1] : List Int) = [2, 1]) = true from by decide] at CI
  have hB16 := below_then (below_then hB14 hB14.size hB5) (by have := hB14.size; omega) hB6
  have hE6 := hE.below hB16 hE.size
  clear CT hp hg hi hE4 hB13 hB4 hB3 c0 c1 c2
  go_wp2_with fail
  refine CI.mono ?_
  rintro r w7 ⟨rfl, hB7⟩
  have d27 := keeps_below hB7 _ _ d26
  have hB17 := below_then hB16 (by have := hB16.size; omega) hB7
  clear CI d26 d2 d0 k0 k1 c20 c22 hw6 hw5 q25 q6 hE6 hB16 hB14
  go_wp2_with fail
  refine (fails_any wkF0 1 6 w7 readF0 (by decide) (hE.below hB17 hE.size)).mono ?_
  rintro r v0 ⟨rfl, hC0⟩
  have hD0 := below_then hB17 hB17.size hC0
  go_wp2_with fail
  refine (fails_any wkF1 2 5 v0 readF1 (by decide) (hE.below hD0 hE.size)).mono ?_
  rintro r v1 ⟨rfl, hC1⟩
  have hD1 := below_then hD0 hD0.size hC1
  go_wp2_with fail
  refine (fails_any wkF2 1 7 v1 readF2 (by decide) (hE.below hD1 hE.size)).mono ?_
  rintro r v2 ⟨rfl, hC2⟩
  have hD2 := below_then hD1 hD1.size hC2
  go_wp2_with fail
  refine (fails_any wkF3 0 50 v2 readF3 (by decide) (hE.below hD2 hE.size)).mono ?_
  rintro r v3 ⟨rfl, hC3⟩
  have hD3 := below_then hD2 hD2.size hC3
  go_wp2_with fail
  refine (fails_any wkF4 2 2 v3 readF4 (by decide) (hE.below hD3 hE.size)).mono ?_
  rintro r v4 ⟨rfl, hC4⟩
  have hD4 := below_then hD3 hD3.size hC4
  go_wp2_with fail
  go_ret
  exact ⟨rfl, hD4⟩
end Go.Proofs.YtnlobmepajakcaaGreatDoor
