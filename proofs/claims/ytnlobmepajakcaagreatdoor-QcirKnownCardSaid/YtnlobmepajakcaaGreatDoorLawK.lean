/- What QcirKnown returns: true; no condition. -/
import Derived.Test.YtnlobmepajakcaaGreatDoorGr
import Derived.Test.YtnlobmepajakcaaGreatDoorDg
import Derived.Test.YtnlobmepajakcaaGreatDoorKw
set_option linter.unusedVariables false
set_option linter.unusedSimpArgs false
namespace Go.Proofs.YtnlobmepajakcaaGreatDoor
open Go.RowKit Go.Shelf
attribute [local go_sem] Oper.semAt_some

def kcells : List Value := kC.flatMap fun c => [sv c.1, .int .i64 (c.2.1 : Int), .int .i64 c.2.2]
theorem wideL_len : ∀ j : Nat, j ≤ 100000 → (wideL j).length ≤ j * 20
  | 0, _ => by simp [wideL]
  | j + 1, h => by
    have ih := wideL_len j (by omega)
    have := digP_len (n := j + 1) (by omega)
    rw [wideL_succ]
    simp only [List.length_append, List.length_cons, List.length_nil]
    omega
theorem kC_len : ∀ c ∈ kC, c.1.length ≤ 4611686018427387904 := by decide +kernel
theorem kcells_get : ∀ (l : List (Bs × Nat × Int)) (j : Nat) (c : Bs × Nat × Int), l[j]? = some c → (l.flatMap fun c => [sv c.1, Value.int .i64 (c.2.1 : Int), Value.int .i64 c.2.2])[j * 3]? = some (sv c.1) ∧
    (l.flatMap fun c => [sv c.1, Value.int .i64 (c.2.1 : Int), Value.int .i64 c.2.2])[j * 3 + 1]? = some (.int .i64 (c.2.1 : Int)) ∧ (l.flatMap fun c => [sv c.1, Value.int .i64 (c.2.1 : Int), Value.int .i64 c.2.2])[j * 3 + 2]? = some (.int .i64 c.2.2)
  | [], j, c, h => by simp at h
  | x :: l, 0, c, h => by
    injection h with h
    subst h
    exact ⟨rfl, rfl, rfl⟩
  | x :: l, j + 1, c, h => by
    have ih := kcells_get l j c (by simpa using h)
    rw [List.flatMap_cons]
    have e0 : (j + 1) * 3 = j * 3 + 1 + 1 + 1 := by omega
    rw [e0]
    exact ih
theorem rep_eq : ∀ c : Nat, Lib.repeatL [32] c = List.replicate c 32
  | 0 => rfl
  | c + 1 => by
    have := rep_eq c
    show [32] ++ Lib.repeatL [32] c = _
    rw [this]; rfl
theorem rep_any (c : Nat) (w : World) (hc : c ≤ 100000000) : Calls Tryz.prog 15 #[.string ⟨#[32]⟩, .int .i64 (c : Int)] w fun e w' => (∃ L : Bs, e = .returned (.string ⟨L.toArray⟩) ∧ L = List.replicate c 32) ∧ Below w.heap.size w w' := by
  refine (Tryz.strings_Repeat ⟨#[32]⟩ c w (by omega) (by show 1 * c ≤ _; omega)).mono ?_
  rintro e w' ⟨rfl, hB⟩
  refine ⟨⟨_, rfl, ?_⟩, hB⟩
  exact rep_eq c
set_option maxRecDepth 100000 in
set_option maxHeartbeats 4000000 in
theorem QcirKnown_any (w : World) (hE : Env w) : Calls Tryz.prog 9 #[] w fun e w' => e = .returned (.bool true) ∧ Below w.heap.size w w' := by
  obtain ⟨w1, hw1, -, -, hz1, hB1, q1⟩ := new_block w #[.string ⟨#[]⟩, .int .i64 0, .int .i64 5, .string ⟨#[35, 10, 32, 10]⟩, .int .i64 0, .int .i64 5, .string ⟨#[101, 120, 105, 115, 116, 115, 40, 49, 41]⟩, .int .i64 0, .int .i64 5, .string ⟨#[9, 101, 120, 105, 115, 116, 115, 40, 49, 41]⟩, .int .i64 1, .int .i64 5, .string ⟨#[101, 120, 105, 115, 116, 115, 40, 49, 41, 10, 102, 114, 101, 101, 40, 50, 41]⟩, .int .i64 2, .int .i64 5, .string ⟨#[102, 114, 101, 101, 40, 41, 10, 102, 114, 101, 101, 40, 41]⟩, .int .i64 2, .int .i64 5, .string ⟨#[102, 111, 114, 97, 108, 108, 40, 49, 44, 41]⟩, .int .i64 1, .int .i64 5, .string ⟨#[102, 111, 114, 97, 108, 108, 40, 45, 49, 41]⟩, .int .i64 1, .int .i64 5, .string ⟨#[102, 111, 114, 97, 108, 108, 40, 54, 53, 53, 51, 55, 41]⟩, .int .i64 1, .int .i64 5, .string ⟨#[102, 111, 114, 97, 108, 108, 40, 49, 41, 10, 111, 117, 116, 112, 117, 116, 40, 49, 44, 32, 49, 41]⟩, .int .i64 2, .int .i64 5, .string ⟨#[102, 111, 114, 97, 108, 108, 40, 49, 41, 10, 111, 117, 116, 112, 117, 116, 40, 49, 41, 10, 101, 120, 105, 115, 116, 115, 40, 50, 41]⟩, .int .i64 3, .int .i64 5, .string ⟨#[102, 111, 114, 97, 108, 108, 40, 49, 41, 10, 111, 117, 116, 112, 117, 116, 40, 49, 41, 10, 111, 117, 116, 112, 117, 116, 40, 49, 41]⟩, .int .i64 3, .int .i64 5, .string ⟨#[50, 32, 61, 32, 97, 110, 100, 40, 41, 10, 111, 117, 116, 112, 117, 116, 40, 50, 41]⟩, .int .i64 1, .int .i64 5, .string ⟨#[102, 111, 114, 97, 108, 108, 40, 49, 41, 10, 111, 117, 116, 112, 117, 116, 40, 49, 41, 10, 50, 32, 61, 32, 110, 97, 110, 100, 40, 49, 41]⟩, .int .i64 3, .int .i64 5, .string ⟨#[102, 111, 114, 97, 108, 108, 40, 49, 41, 10, 111, 117, 116, 112, 117, 116, 40, 49, 41, 10, 49, 32, 61, 32, 111, 114, 40, 41]⟩, .int .i64 3, .int .i64 7, .string ⟨#[102, 111, 114, 97, 108, 108, 40, 49, 41, 10, 111, 117, 116, 112, 117, 116, 40, 49, 41, 10, 10, 35, 32, 120, 10, 50, 32, 61, 32, 105, 116, 101, 40, 49, 44, 32, 49, 41]⟩, .int .i64 5, .int .i64 2, .string ⟨#[102, 111, 114, 97, 108, 108, 40, 49, 41, 10, 111, 117, 116, 112, 117, 116, 40, 49, 41, 10, 50, 32, 61, 32, 111, 114, 40, 49, 41, 10, 51, 32, 61, 32, 111, 114, 40, 50, 44, 32, 57, 41]⟩, .int .i64 4, .int .i64 6, .string ⟨#[102, 111, 114, 97, 108, 108, 40, 49, 41, 10, 111, 117, 116, 112, 117, 116, 40, 50, 41, 10, 50, 32, 61, 32, 111, 114, 40, 50, 41]⟩, .int .i64 0, .int .i64 50, .string ⟨#[102, 111, 114, 97, 108, 108, 40, 49, 41, 10, 101, 120, 105, 115, 116, 115, 40, 50, 44, 32, 49, 41]⟩, .int .i64 2, .int .i64 7, .string ⟨#[102, 111, 114, 97, 108, 108, 40, 49, 41, 32, 111, 117, 116, 112, 117, 116, 40, 49, 41]⟩, .int .i64 1, .int .i64 5, .string ⟨#[32, 35]⟩, .int .i64 1, .int .i64 5] 66
  have hq1 : w1.heap[w.heap.size]? = some (.cells kcells.toArray 66 (0, 0)) := q1
  clear q1
  go_enter Tryz.func9, Tryz.ntmps9
  go_wp2_with fail
  go_loopg [39] 21 (fun gg s39 wr => ∃ j : Nat, j ≤ 21 ∧ 21 - j ≤ gg ∧ s39 = .int .i64 (j : Int) ∧ Below w1.heap.size w1 wr)
  case atStart => exact ⟨0, by omega, by omega, rfl, Below.refl _ _⟩
  case round =>
    obtain ⟨j, hj, hgg, rfl, hB⟩ := hrel
    have hq := row_below hq1 hB
    have hBw := below_then hB1 hB1.size hB
    by_cases hlt : j < 21
    · have hltz : (j : Int) < 21 := by omega
      obtain ⟨c, hcj, hcm, -⟩ := nth (show j < kC.length from hlt)
      obtain ⟨g0, g1, g2⟩ := kcells_get kC j c hcj
      have c0 : wr.cell? ⟨w.heap.size, j * 3, none⟩ = some (sv c.1) := cell_row hq (by rw [List.getElem?_toArray]; exact g0)
      have c1 : wr.cell? ⟨w.heap.size, j * 3 + 1, none⟩ = some (.int .i64 (c.2.1 : Int)) := cell_row hq (by rw [List.getElem?_toArray]; exact g1)
      have c2 : wr.cell? ⟨w.heap.size, j * 3 + 2, none⟩ = some (.int .i64 c.2.2) := cell_row hq (by rw [List.getElem?_toArray]; exact g2)
      have hrd := readC c hcm
      have hcl := kC_len c hcm
      obtain ⟨cs, cn, ce⟩ := c
      simp only [] at c0 c1 c2 hrd hcl
      unfold sv at c0
      obtain ⟨w2, hw2, -, -, hz2, hB2, q2⟩ := new_block wr #[.string ⟨cs.toArray⟩, .int .i64 (cn : Int), .int .i64 ce] 66
      have d0 : w2.cell? ⟨wr.heap.size, 0, none⟩ = some (.string ⟨cs.toArray⟩) := cell_row q2 (j := 0) rfl
      have d1 : w2.cell? ⟨wr.heap.size, 1, none⟩ = some (.int .i64 (cn : Int)) := cell_row q2 (j := 1) rfl
      have d2 : w2.cell? ⟨wr.heap.size, 2, none⟩ = some (.int .i64 ce) := cell_row q2 (j := 2) rfl
      have hBw2 := below_then hBw hBw.size hB2
      have CF := fails_any cs cn ce w2 hrd (by omega) (hE.below hBw2 hE.size)
      clear hq hcj hcm g0 g1 g2 hrd q2 hq1
      go_wp2_with fail
      refine CF.mono ?_
      rintro e w3 ⟨rfl, hB3⟩
      go_wp2_with fail
      go_roundg (21 - (j + 1))
      case measure => omega
      case rel => exact ⟨j + 1, by omega, by omega, by go_num, below_then hB hB.size (below_then hB2 hB2.size hB3)⟩
    · have hltz : ¬ (j : Int) < 21 := by omega
      have hEr := hE.below hBw hE.size
      have CR := Read_any kS wr hEr (by decide)
      rw [readK] at CR
      clear hq hq1 hj hgg
      generalize wr = W2 at *
      go_wp2_with fail
      refine (show ∀ X : ByteArray, X = ⟨kS.toArray⟩ → Calls Tryz.prog 17 #[.string X] W2 _ from ?_) _ rfl
      intro X hX
      rw [hX]
      clear hX X
      refine CR.mono ?_
      rintro e w3 ⟨hB3, vn, rfl, hN⟩
      obtain ⟨Ap, cp, Ag, cg, rfl⟩ := net_parts hN
      rw [show kN.pre.length = 1 from rfl, show kN.gates.length = 1 from rfl, show kN.out = -9 from rfl]
      obtain ⟨w4, hw4, -, -, hz4, hB4, q4⟩ := new_block w3 #[.slice Ap 1 cp, .slice Ag 1 cg, .int .i64 (-9)] 40
      have c0 := cell_row q4 (j := 0) (v := .slice Ap 1 cp) rfl
      have c1 := cell_row q4 (j := 1) (v := .slice Ag 1 cg) rfl
      have c2 := cell_row q4 (j := 2) (v := .int .i64 (-9)) rfl
      have hBw3 := below_then hBw hBw.size hB3
      have hBw4 := below_then hBw3 hBw3.size hB4
      have CP : Calls Tryz.prog 23 #[.agg #[.slice Ap 1 cp, .slice Ag 1 cg, .int .i64 (-9)]] w4 fun e w' => e = .returned (.tuple #[.string ⟨#[35, 81, 67, 73, 82, 45, 49, 52, 10, 101, 120, 105, 115, 116, 115, 40, 55, 44, 32, 54, 53, 53, 51, 54, 41, 10, 111, 117, 116, 112, 117, 116, 40, 45, 57, 41, 10, 57, 32, 61, 32, 105, 116, 101, 40, 55, 44, 32, 54, 53, 53, 51, 54, 44, 32, 45, 54, 53, 53, 51, 54, 41, 10]⟩, .int .i64 0]) ∧ Below w4.heap.size w4 w' := by
        have C := Print_any _ kN w4 (hN.keep (keeps_below hB4)) (by decide) (hE.below hBw4 hE.size)
        rw [printK] at C
        exact C
      clear hN CR q4
      go_wp2_with fail
      refine CP.mono ?_
      rintro e w5 ⟨rfl, hB5⟩
      have hBw5 := below_then hBw4 hBw4.size hB5
      have CRp := rep_any 4194305 w5 (by omega)
      clear CP c0 c1 c2
      go_wp2_with fail
      refine CRp.mono ?_
      rintro e w6 ⟨⟨L, rfl, hL⟩, hB6⟩
      have hLl : L.length = 4194305 := by rw [hL, List.length_replicate]
      have hBw6 := below_then hBw5 hBw5.size hB6
      have CL := Read_any L w6 (hE.below hBw6 hE.size) (by omega)
      rw [show readP L = (noNet, 0, 3) by unfold readP readW; rw [if_pos (by omega)]] at CL
      clear hL hLl CRp
      go_wp2_with fail
      refine CL.mono ?_
      rintro e w7 ⟨hB7, vn2, rfl, hN2⟩
      obtain ⟨Ap2, cp2, Ag2, cg2, rfl⟩ := net_parts hN2
      obtain ⟨z, hz⟩ : ∃ z, noNet.out = z := ⟨_, rfl⟩
      rw [show noNet.pre.length = 0 from rfl, show noNet.gates.length = 0 from rfl, hz]
      obtain ⟨w8, hw8, -, -, hz8, hB8, q8⟩ := new_block w7 #[.slice Ap2 0 cp2, .slice Ag2 0 cg2, .int .i64 z] 40
      obtain ⟨w9, hw9, -, -, hz9, hB9, q9⟩ := new_block w8 #[.pointer none, .slice none 0 0] 27
      have hBw7 := below_then hBw6 hBw6.size hB7
      have hBw8 := below_then hBw7 hBw7.size hB8
      have hBw9 := below_then hBw8 hBw8.size hB9
      have hBl : Bld w8.heap.size w8.heap.size (wideL 0) w9 := by rw [← hw9]; exact bld_fresh w8
      have hwb : w.heap.size ≤ w8.heap.size := hBw8.size
      clear hN2 CL q8 q9
      rw [hz8] at hBl hwb hz9
      go_wp2_with fail
      clear hw8 hw9 hz8
      generalize w7.heap.size + 1 = b at *
      go_loopg [12] 1025 (fun gg s12 wr => ∃ j : Nat, j ≤ 1025 ∧ 1025 - j ≤ gg ∧ s12 = .int .i64 ((j : Int) + 1) ∧ Below w.heap.size w wr ∧ Bld b b (wideL j) wr ∧ b + 1 ≤ wr.heap.size)
      case atStart => exact ⟨0, by omega, by omega, rfl, hBw9, hBl, by omega⟩
      case round =>
        obtain ⟨i, hi, hgi, rfl, hBr, hBi, hsz⟩ := hrel
        have hwl := wideL_len i (by omega)
        by_cases hlti : i < 1025
        · have hle : (i : Int) + 1 ≤ 1025 := by omega
          have CD := digits_any (i + 1) wr (by omega)
          rw [show ((i + 1 : Nat) : Int) = (i : Int) + 1 by omega] at CD
          have hdl := digP_len (n := i + 1) (by omega)
          have hws := hid (wideL_succ i)
          generalize digP (i + 1) = D at CD hdl hws
          go_wp2_with fail
          refine CD.mono ?_
          rintro e w2 ⟨rfl, hB2⟩
          have CW := write_any b b (wideL i) ([101, 120, 105, 115, 116, 115, 40] ++ D ++ [41, 10]) w2 (hBi.below hB2) (by simp only [List.length_append, List.length_cons, List.length_nil]; omega) (by have := hB2.size; omega)
          rw [← ba_app, ← ba_app] at CW
          go_wp2_with fail
          refine CW.mono ?_
          rintro e w3 ⟨rfl, hB3, hB4, -⟩
          go_wp2_with fail
          go_roundg (1025 - (i + 1))
          case measure => omega
          case rel =>
            refine ⟨i + 1, by omega, by omega, congrArg (Value.int .i64) (by omega), (below_then hBr hBr.size hB2).trans (hB4.mono hwb), ?_, by have := hB2.size; have := hB4.size; omega⟩
            rw [hws.out]
            simpa only [List.append_assoc] using hB3
        · have hle : ¬ (i : Int) + 1 ≤ 1025 := by omega
          have hie : i = 1025 := by omega
          subst hie
          have CS := string_any b b (wideL 1025) wr hBi (by omega)
          go_wp2_with fail
          refine CS.mono ?_
          rintro e w2 ⟨rfl, -, hB2, -⟩
          have hBr2 := hBr.trans (hB2.mono hwb)
          have CR2 := Read_any (wideL 1025) w2 (hE.below hBr2 hE.size) (by omega)
          rw [read_wide] at CR2
          go_wp2_with fail
          refine CR2.mono ?_
          rintro e w3 ⟨hB3, vn3, rfl, hN3⟩
          obtain ⟨Ap3, cp3, Ag3, cg3, rfl⟩ := net_parts hN3
          rw [show noNet.pre.length = 0 from rfl, show noNet.gates.length = 0 from rfl, hz]
          obtain ⟨w4, hw4, -, -, hz4, hB4, q4⟩ := new_block w3 #[.slice Ap3 0 cp3, .slice Ag3 0 cg3, .int .i64 z] 40
          have hBr3 := below_then hBr2 hBr2.size hB3
          have hBr4 := below_then hBr3 hBr3.size hB4
          clear hN3 CR2 CS q4
          go_wp2_with fail
          refine (works_any w4 (hE.below hBr4 hE.size)).mono ?_
          rintro e w5 ⟨rfl, hB5⟩
          go_wp2_with fail
          go_ret
          exact ⟨rfl, below_then hBr4 hBr4.size hB5⟩
end Go.Proofs.YtnlobmepajakcaaGreatDoor
