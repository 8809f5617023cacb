/- What the law CircKnown does: it returns true; no condition. -/
import Derived.Test.YtnlobmepajakcaaSemK
import Derived.Test.YtnlobmepajakcaaOrdC
set_option linter.unusedVariables false
set_option linter.unusedSimpArgs false
namespace Go.Proofs.Ytnlobmepajakcaa
open Go.RowKit Go.Shelf

theorem kn_sizes : ∀ j, j < 8 → (knS j).size = 4 ∧ (knI j).length ≤ 3 := by decide +kernel
theorem kn_small : ∀ j, j < 7 → litSum (knB j).gates ≤ 4611686018427387904 := by decide +kernel
theorem kn_byte (c : UInt8) : (!(c == 49) == ((c.toNat : Int) == 49)) = false := by
  by_cases h : c = 49
  · subst h; decide
  · have h1 : (c == 49) = false := by simpa using h
    have h2 : ((c.toNat : Int) == 49) = false := by
      simp
      intro e
      exact h (UInt8.toNat_inj.1 (by show c.toNat = 49; omega))
    rw [h1, h2]
    decide
set_option maxRecDepth 100000 in
set_option maxHeartbeats 8000000 in
theorem CircKnown_any (w : World) : Calls Try.prog 10 #[] w fun e w' => e = .returned (.bool true) ∧ Below w.heap.size w w' := by
  go_enter Try.func10, Try.ntmps10
  go_wp2_with fail
  refine (example_any w).mono ?_
  rintro e w1 ⟨vN, rfl, hN, hB1⟩
  have hN' := hN
  obtain ⟨vp, vg, rfl, -, hp, hg⟩ := hN'
  obtain ⟨Ap, cp, rfl, -, -⟩ : ∃ A c, vp = .slice A 3 c ∧ 3 ≤ c ∧ c ≤ 9223372036854775807 := hp.form
  obtain ⟨Ag, cg, rfl, -, -⟩ : ∃ A c, vg = .slice A 2 c ∧ 2 ≤ c ∧ c ≤ 9223372036854775807 := hg.form
  have hN : NetAt w1 (.agg #[.slice Ap 3 cp, .slice Ag 2 cg, .int .i64 5]) exN := hN
  have hX : Value.int .i64 exN.out = .int .i64 5 := rfl
  rw [hX]
  clear hp hg hX
  obtain ⟨w2, hw2, -, -, z2, hB2, q2⟩ := new_block w1 #[.slice Ap 3 cp, .slice Ag 2 cg, .int .i64 5] 25
  have hB02 := below_then hB1 hB1.size hB2
  have rows : ∀ W, Below w2.heap.size w2 W → W.cell? ⟨w1.heap.size, 0, none⟩ = some (.slice Ap 3 cp) ∧ W.cell? ⟨w1.heap.size, 1, none⟩ = some (.slice Ag 2 cg) ∧ W.cell? ⟨w1.heap.size, 2, none⟩ = some (.int .i64 5) := fun W hW =>
    ⟨cell_row (row_below q2 hW) rfl, cell_row (row_below q2 hW) rfl, cell_row (row_below q2 hW) rfl⟩
  have nets : ∀ W, Below w2.heap.size w2 W → NetAt W (.agg #[.slice Ap 3 cp, .slice Ag 2 cg, .int .i64 5]) exN := fun W hW => hN.keep (keeps_below (below_then hB2 hB2.size hW))
  obtain ⟨w3, hw3, -, -, z3, hB3, q3⟩ := new_block w2 #[.int .i64 1, .int .i64 (-2)] 3
  obtain ⟨w4, hw4, -, -, z4, hB4, q4⟩ := new_block w3 #[.int .i64 1, .int .i64 (-2)] 3
  obtain ⟨w5, hw5, -, -, z5, hB5, q5⟩ := new_block w4 #[.int .i64 1, .int .i64 2] 3
  obtain ⟨w6, hw6, -, -, z6, hB6, q6⟩ := new_block w5 #[.int .i64 1, .int .i64 1] 3
  obtain ⟨w7, hw7, -, -, z7, hB7, q7⟩ := new_block w6 #[.int .i64 1, .int .i64 2, .int .i64 (-2)] 3
  obtain ⟨w8, hw8, -, -, z8, hB8, q8⟩ := new_block w7 #[.int .i64 (-1), .int .i64 2, .int .i64 1] 3
  rw [z2] at z3 q3
  rw [z3] at z4 q4
  rw [z4] at z5 q5
  rw [z5] at z6 q6
  rw [z6] at z7 q7
  rw [z7] at z8 q8
  obtain ⟨w9, hw9, -, -, z9, hB9, q9⟩ := new_block w8 #[.int .u8 1, .slice none 0 0, .string ⟨#[49, 49, 49, 49]⟩, .int .u8 1, .slice (some ⟨w1.heap.size + 1, 0, none⟩) 2 2, .string ⟨#[48, 49, 48, 48]⟩, .int .u8 2, .slice none 0 0, .string ⟨#[48, 48, 48, 48]⟩, .int .u8 2, .slice (some ⟨w1.heap.size + 1 + 1, 0, none⟩) 2 2, .string ⟨#[49, 49, 48, 49]⟩, .int .u8 3, .slice (some ⟨w1.heap.size + 1 + 1 + 1, 0, none⟩) 2 2, .string ⟨#[48, 49, 49, 48]⟩, .int .u8 3, .slice (some ⟨w1.heap.size + 1 + 1 + 1 + 1, 0, none⟩) 2 2, .string ⟨#[48, 48, 48, 48]⟩, .int .u8 4, .slice (some ⟨w1.heap.size + 1 + 1 + 1 + 1 + 1, 0, none⟩) 3 3, .string ⟨#[49, 48, 48, 49]⟩, .int .u8 4, .slice (some ⟨w1.heap.size + 1 + 1 + 1 + 1 + 1 + 1, 0, none⟩) 3 3, .string ⟨#[48, 49, 49, 49]⟩] 77
  rw [z8] at z9 q9
  have hB29 := below_then (below_then (below_then (below_then (below_then (below_then hB3 (by omega) hB4) (by omega) hB5) (by omega) hB6) (by omega) hB7) (by omega) hB8) (by omega) hB9
  have hBB9 := below_then hB02 hB02.size hB29
  have p8 := row_below q8 hB9
  have p7 := row_below (row_below q7 hB8) hB9
  have p6 := row_below (row_below (row_below q6 hB7) hB8) hB9
  have p5 := row_below (row_below (row_below (row_below q5 hB6) hB7) hB8) hB9
  have p4 := row_below (row_below (row_below (row_below (row_below q4 hB5) hB6) hB7) hB8) hB9
  have p3 := row_below (row_below (row_below (row_below (row_below (row_below q3 hB4) hB5) hB6) hB7) hB8) hB9
  have none9 : ∀ W, IntsAt W (.slice none 0 0) [] := fun W => ⟨none, 0, rfl, Nat.le_refl _, by omega, fun h => by simp at h⟩
  have rowsK : ∀ W, Below w9.heap.size w9 W → ∀ j, j < 8 → ∃ A n, W.cell? ⟨w1.heap.size + 1 + 1 + 1 + 1 + 1 + 1 + 1, j * 3, none⟩ = some (.int .u8 (knK j)) ∧ W.cell? ⟨w1.heap.size + 1 + 1 + 1 + 1 + 1 + 1 + 1, j * 3 + 1, none⟩ = some (.slice A n n) ∧ W.cell? ⟨w1.heap.size + 1 + 1 + 1 + 1 + 1 + 1 + 1, j * 3 + 2, none⟩ = some (.string ⟨knS j⟩) ∧ IntsAt W (.slice A n n) (knI j) := fun W hW j hj => by
    have r9 := row_below q9 hW
    match j, hj with
    | 0, _ => exact ⟨_, _, cell_row r9 rfl, cell_row r9 rfl, cell_row r9 rfl, none9 W⟩
    | 1, _ => exact ⟨_, _, cell_row r9 rfl, cell_row r9 rfl, cell_row r9 rfl, ints_row (n := 2) (row_below p3 hW) rfl (i64s rfl) (by omega)⟩
    | 2, _ => exact ⟨_, _, cell_row r9 rfl, cell_row r9 rfl, cell_row r9 rfl, none9 W⟩
    | 3, _ => exact ⟨_, _, cell_row r9 rfl, cell_row r9 rfl, cell_row r9 rfl, ints_row (n := 2) (row_below p4 hW) rfl (i64s rfl) (by omega)⟩
    | 4, _ => exact ⟨_, _, cell_row r9 rfl, cell_row r9 rfl, cell_row r9 rfl, ints_row (n := 2) (row_below p5 hW) rfl (i64s rfl) (by omega)⟩
    | 5, _ => exact ⟨_, _, cell_row r9 rfl, cell_row r9 rfl, cell_row r9 rfl, ints_row (n := 2) (row_below p6 hW) rfl (i64s rfl) (by omega)⟩
    | 6, _ => exact ⟨_, _, cell_row r9 rfl, cell_row r9 rfl, cell_row r9 rfl, ints_row (n := 3) (row_below p7 hW) rfl (i64s rfl) (by omega)⟩
    | 7, _ => exact ⟨_, _, cell_row r9 rfl, cell_row r9 rfl, cell_row r9 rfl, ints_row (n := 3) (row_below p8 hW) rfl (i64s rfl) (by omega)⟩
    | j + 8, hj => omega
  have HQ := hid (And.intro q2 (And.intro q9 (And.intro p3 (And.intro p4 (And.intro p5 (And.intro p6 (And.intro p7 p8)))))))
  clear q3 q4 q5 q6 q7 q8 q9 p3 p4 p5 p6 p7 p8 q2 hB3 hB4 hB5 hB6 hB7 hB8 hB9 none9
  go_wp2_with fail
  go_loopg [3, 4, 5, 6, 7, 8, 47] 8 (fun gg _ _ _ _ _ _ s47 wr => ∃ (j : Nat), j ≤ 8 ∧ 8 - j ≤ gg ∧ s47 = .int .i64 j ∧ Below w9.heap.size w9 wr)
  case atStart => exact ⟨0, by omega, by omega, rfl, Below.refl _ _⟩
  case round =>
    obtain ⟨j, hj, hg, rfl, hB⟩ := hrel
    rename World => wo
    by_cases hlt : j < 8
    · obtain ⟨A, n, c0, c1, c2, hI⟩ := rowsK wo hB j hlt
      have hltz : (j : Int) < 8 := by omega
      have kv := kn_val j hlt
      obtain ⟨hs4, hl3⟩ := kn_sizes j hlt
      have hk64 : 0 ≤ knK j ∧ knK j ≤ 255 := by
        match j, hlt with
        | 0, _ => decide
        | 1, _ => decide
        | 2, _ => decide
        | 3, _ => decide
        | 4, _ => decide
        | 5, _ => decide
        | 6, _ => decide
        | 7, _ => decide
        | j + 8, h => omega
      obtain ⟨k, hk⟩ : ∃ k, knK j = k := ⟨_, rfl⟩
      obtain ⟨il, hil⟩ : ∃ il, knI j = il := ⟨_, rfl⟩
      obtain ⟨st, hst⟩ : ∃ st, knS j = st := ⟨_, rfl⟩
      rw [hk] at c0 kv hk64
      rw [hil] at hI kv hl3
      rw [hst] at c2 kv hs4
      obtain ⟨v0, hv0, -, -, y0, D0, r0⟩ := new_block wo #[.int .u8 k, .slice A n n, .string ⟨st⟩] 77
      obtain ⟨v1, hv1, -, -, y1, D1, r1⟩ := new_block v0 #[.int .i64 2, .int .i64 1] 3
      rw [y0] at y1 r1
      obtain ⟨v2, hv2, -, -, y2, D2, r2⟩ := new_block v1 #[.bool false, .slice (some ⟨wo.heap.size + 1, 0, none⟩) 2 2] 80
      rw [y1] at y2 r2
      obtain ⟨v3, hv3, -, -, y3, D3, r3⟩ := new_block v2 #[.int .i64 3, .int .u8 k, .slice A n n] 70
      rw [y2] at y3 r3
      obtain ⟨v4, hv4, -, -, y4, D4, r4⟩ := new_block v3 #[.slice (some ⟨wo.heap.size + 1 + 1, 0, none⟩) 1 1, .slice (some ⟨wo.heap.size + 1 + 1 + 1, 0, none⟩) 1 1, .int .i64 3] 25
      rw [y3] at y4 r4
      obtain ⟨v5, hv5, -, -, y5, D5, r5⟩ := new_block v4 #[.int .i64 (-1), .int .i64 (-2)] 3
      rw [y4] at y5 r5
      obtain ⟨v6, hv6, -, -, y6, D6, r6⟩ := new_block v5 #[.int .i64 1] 3
      rw [y5] at y6 r6
      obtain ⟨v7, hv7, -, -, y7, D7, r7⟩ := new_block v6 #[.int .i64 2] 3
      rw [y6] at y7 r7
      obtain ⟨v8, hv8, -, -, y8, D8, r8⟩ := new_block v7 #[.int .i64 1, .int .i64 2] 3
      rw [y7] at y8 r8
      obtain ⟨v9, hv9, -, -, y9, D9, r9⟩ := new_block v8 #[.slice (some ⟨wo.heap.size + 1 + 1 + 1 + 1 + 1, 0, none⟩) 2 2, .slice (some ⟨wo.heap.size + 1 + 1 + 1 + 1 + 1 + 1, 0, none⟩) 1 1, .slice (some ⟨wo.heap.size + 1 + 1 + 1 + 1 + 1 + 1 + 1, 0, none⟩) 1 1, .slice (some ⟨wo.heap.size + 1 + 1 + 1 + 1 + 1 + 1 + 1 + 1, 0, none⟩) 2 2] 26
      rw [y8] at y9 r9
      have s2 := row_below (row_below r0 D1) D2
      have a0 := cell_row s2 (j := 0) (v := .int .u8 k) rfl
      have a1 := cell_row s2 (j := 1) (v := .slice A n n) rfl
      have R0 := (row_below (row_below (row_below (row_below (row_below (row_below (row_below (row_below (row_below r0 D1) D2) D3) D4) D5) D6) D7) D8) D9)
      have R1 := (row_below (row_below (row_below (row_below (row_below (row_below (row_below (row_below r1 D2) D3) D4) D5) D6) D7) D8) D9)
      have R2 := (row_below (row_below (row_below (row_below (row_below (row_below (row_below r2 D3) D4) D5) D6) D7) D8) D9)
      have R3 := (row_below (row_below (row_below (row_below (row_below (row_below r3 D4) D5) D6) D7) D8) D9)
      have R4 := (row_below (row_below (row_below (row_below (row_below r4 D5) D6) D7) D8) D9)
      have R5 := (row_below (row_below (row_below (row_below r5 D6) D7) D8) D9)
      have R6 := (row_below (row_below (row_below r6 D7) D8) D9)
      have R7 := (row_below (row_below r7 D8) D9)
      have R8 := (row_below r8 D9)
      have R9 := r9
      have DD : Below wo.heap.size wo v9 := (below_then (below_then (below_then (below_then (below_then (below_then (below_then (below_then (below_then D0 (by omega) D1) (by omega) D2) (by omega) D3) (by omega) D4) (by omega) D5) (by omega) D6) (by omega) D7) (by omega) D8) (by omega) D9)
      have hNN : NetAt v9 (.agg #[.slice (some ⟨wo.heap.size + 1 + 1, 0, none⟩) 1 1, .slice (some ⟨wo.heap.size + 1 + 1 + 1, 0, none⟩) 1 1, .int .i64 3]) (knN k il) := by
        refine ⟨_, _, rfl, by unfold I64 knN; simp, ?_, ?_⟩
        · refine blocks_row [⟨false, [2, 1]⟩] [.slice (some ⟨wo.heap.size + 1, 0, none⟩) 2 2] rfl rfl (by omega) R2 (fun i p v hp hv => ?_)
          match i, hp, hv with
          | 0, hp, hv => injection hp with hp; injection hv with hv; subst hp; subst hv; exact ints_row (n := 2) R1 rfl (i64s rfl) (by omega)
          | i + 1, hp, hv => simp at hp
        · refine gates_row [⟨3, k, il⟩] [(3, k, A, n, n)] rfl rfl (by omega) R3 (fun i p v hp hv => ?_)
          match i, hp, hv with
          | 0, hp, hv => injection hp with hp; injection hv with hv; subst hp; subst hv; exact ⟨rfl, rfl, ⟨by unfold I64; simp, hk64.1, hk64.2⟩, hI.keep (keeps_below DD)⟩
          | i + 1, hp, hv => simp at hp
      have asg : ∀ W, Below v9.heap.size v9 W → ∀ i, i < 4 → ∃ B m, W.cell? ⟨wo.heap.size + 1 + 1 + 1 + 1 + 1 + 1 + 1 + 1 + 1, i, none⟩ = some (.slice B m m) ∧ IntsAt W (.slice B m m) (knA i) := fun W hW i hi => by
        have r9 := row_below R9 hW
        match i, hi with
        | 0, _ => exact ⟨_, _, cell_row r9 rfl, ints_row (n := 2) (row_below R5 hW) rfl (i64s rfl) (by omega)⟩
        | 1, _ => exact ⟨_, _, cell_row r9 rfl, ints_row (n := 1) (row_below R6 hW) rfl (i64s rfl) (by omega)⟩
        | 2, _ => exact ⟨_, _, cell_row r9 rfl, ints_row (n := 1) (row_below R7 hW) rfl (i64s rfl) (by omega)⟩
        | 3, _ => exact ⟨_, _, cell_row r9 rfl, ints_row (n := 2) (row_below R8 hW) rfl (i64s rfl) (by omega)⟩
        | i + 4, h => omega
      have rows4 : ∀ W, Below v9.heap.size v9 W → (W.cell? ⟨wo.heap.size + 1 + 1 + 1 + 1, 0, none⟩ = some (.slice (some ⟨wo.heap.size + 1 + 1, 0, none⟩) 1 1) ∧ W.cell? ⟨wo.heap.size + 1 + 1 + 1 + 1, 1, none⟩ = some (.slice (some ⟨wo.heap.size + 1 + 1 + 1, 0, none⟩) 1 1) ∧ W.cell? ⟨wo.heap.size + 1 + 1 + 1 + 1, 2, none⟩ = some (.int .i64 3)) ∧ W.cell? ⟨wo.heap.size, 2, none⟩ = some (.string ⟨st⟩) := fun W hW =>
        ⟨⟨cell_row (row_below R4 hW) rfl, cell_row (row_below R4 hW) rfl, cell_row (row_below R4 hW) rfl⟩, cell_row (row_below R0 hW) rfl⟩
      clear R0 R1 R2 R3 R4 R5 R6 R7 R8 R9 r0 r1 r2 r3 r4 r5 r6 r7 r8 r9 D0 D1 D2 D3 D4 D5 D6 D7 D8 D9 s2 hI
      go_wp2_with fail
      go_loopg [5, 6, 7, 8, 67] 4 (fun gg _ _ _ _ s67 wr => ∃ (i : Nat), i ≤ 4 ∧ 4 - i ≤ gg ∧ s67 = .int .i64 i ∧ Below v9.heap.size v9 wr)
      case atStart => exact ⟨0, by omega, by omega, rfl, Below.refl _ _⟩
      case round =>
        obtain ⟨i, hi, hgi, rfl, hBi⟩ := hrel
        by_cases hli : i < 4
        · have hlz : (i : Int) < 4 := by omega
          obtain ⟨⟨n0, n1, n2⟩, -⟩ := rows4 wr hBi
          obtain ⟨B, m, e0, hIa⟩ := asg wr hBi i hli
          have C21 := Eval_any _ _ (knN k il) (knA i) wr (hNN.keep (keeps_below hBi)) hIa (by simp [litSum, knN]; omega)
          rw [kv i hli] at C21
          go_wp2_with fail
          refine C21.mono ?_
          rintro e wz ⟨rfl, hBz⟩
          have hBiz := below_then hBi hBi.size hBz
          obtain ⟨-, f2⟩ := rows4 wz hBiz
          have hin : i < st.size := by omega
          go_wp2_with fail
          · rename_i hbad
            exact absurd ((kn_byte (st[i]'hin)).symm.trans hbad) (by decide)
          · go_roundg (4 - (i + 1))
            case measure => omega
            case rel => exact ⟨i + 1, by omega, by omega, by go_num, hBiz⟩
        · obtain rfl : i = 4 := by omega
          clear hli hgi hi
          go_wp2_with fail
          go_roundg (8 - (j + 1))
          case measure => omega
          case rel => exact ⟨j + 1, by omega, by omega, by go_num, below_then hB hB.size (below_then DD DD.size hBi)⟩
    · obtain rfl : j = 8 := by omega
      clear hlt hg hj
      have B2o := below_then hB29 hB29.size hB
      obtain ⟨x0, hx0, -, -, z0, D0, r0⟩ := new_block wo #[.int .i64 5] 3
      obtain ⟨x1, hx1, -, -, z1, D1, r1⟩ := new_block x0 #[.int .i64 4, .int .i64 1] 3
      rw [z0] at z1 r1
      obtain ⟨x2, hx2, -, -, z2, D2, r2⟩ := new_block x1 #[.int .i64 4, .int .u8 2, .slice (some ⟨wo.heap.size, 0, none⟩) 1 1, .int .i64 5, .int .u8 2, .slice (some ⟨wo.heap.size + 1, 0, none⟩) 2 2] 70
      rw [z1] at z2 r2
      obtain ⟨x3, hx3, -, -, z3, D3, r3⟩ := new_block x2 #[.int .i64 1] 3
      rw [z2] at z3 r3
      have DD := below_then (below_then (below_then D0 (by omega) D1) (by omega) D2) (by omega) D3
      have B2x := below_then B2o B2o.size DD
      have hG : GatesAt x3 (.slice (some ⟨wo.heap.size + 1 + 1, 0, none⟩) 2 2) knG := by
        refine gates_row knG [(4, 2, some ⟨wo.heap.size, 0, none⟩, 1, 1), (5, 2, some ⟨wo.heap.size + 1, 0, none⟩, 2, 2)] rfl rfl (by omega) (row_below r2 D3) (fun i p v hp hv => ?_)
        match i, hp, hv with
        | 0, hp, hv => injection hp with hp; injection hv with hv; subst hp; subst hv; exact ⟨rfl, rfl, by unfold I64; simp, ints_row (n := 1) (row_below (row_below (row_below r0 D1) D2) D3) rfl (i64s rfl) (by simp)⟩
        | 1, hp, hv => injection hp with hp; injection hv with hv; subst hp; subst hv; exact ⟨rfl, rfl, by unfold I64; simp, ints_row (n := 2) (row_below (row_below r1 D2) D3) rfl (i64s rfl) (by simp)⟩
        | i + 2, hp, hv => simp [knG] at hp
      have C := Order_any _ _ [1] knG x3 (ints_row (n := 1) r3 rfl (i64s rfl) (by omega)) hG (by decide) (by decide)
      have hk := kn_loop
      revert hk C
      generalize orderP [1] knG = R
      intro C hk
      obtain ⟨R1, R2⟩ := R
      obtain rfl : R2 = 50 := hk
      clear r0 r1 r2 r3 D0 D1 D2 D3 hG
      go_wp2_with fail
      refine C.mono ?_
      rintro e y1 ⟨hY, vr, rfl, -, -⟩
      have B2y := below_then B2x B2x.size hY
      clear C hx0 hx1 hx2 hx3 z0 z1 z2 z3
      obtain ⟨x4, hx4, -, -, z4, D4, r4⟩ := new_block y1 #[.int .i64 1, .int .i64 1] 3
      have B24 := below_then B2y B2y.size D4
      have C := Order_any _ (.slice none 0 0) [1, 1] [] x4 (ints_row (n := 2) r4 rfl (i64s rfl) (by omega)) (gates_none _) (by decide) (by decide)
      have hk := kn_twice
      revert hk C
      generalize orderP [1, 1] [] = R
      intro C hk
      obtain ⟨R1', R2⟩ := R
      obtain rfl : R2 = 2 := hk
      go_wp2_with fail
      refine C.mono ?_
      rintro e y2 ⟨hY2, vr2, rfl, -, -⟩
      have B2y2 := below_then B24 B24.size hY2
      clear C hx4 z4 r4 D4
      obtain ⟨a0, a1, a2⟩ := rows y2 B2y2
      obtain ⟨x5, hx5, -, -, z5, D5, r5⟩ := new_block y2 #[.int .i64 4] 3
      have B25 := below_then B2y2 B2y2.size D5
      have C := Cofactor_any _ _ exN [4] x5 (nets x5 B25) (ints_row (n := 1) r5 rfl (i64s rfl) (by omega)) (by decide) (by decide)
      have hk := kn_cof1
      revert hk C
      generalize cofactorP exN [4] = R
      intro C hk
      obtain ⟨N1, R2⟩ := R
      obtain rfl : R2 = 6 := hk
      go_wp2_with fail
      refine C.mono ?_
      rintro e y3 ⟨hY3, vr3, rfl, hF3⟩
      have B2y3 := below_then B25 B25.size hY3
      obtain ⟨p3, g3, rfl, -, hp3, hg3⟩ := hF3.at
      obtain ⟨Ap3, cp3, rfl, -, -⟩ := hp3.form
      obtain ⟨Ag3, cg3, rfl, -, -⟩ := hg3.form
      clear C hx5 z5 r5 D5 a0 a1 a2 hF3 hp3 hg3
      obtain ⟨x6, hx6, -, -, z6, D6, r6⟩ := new_block y3 #[.slice Ap3 N1.pre.length cp3, .slice Ag3 N1.gates.length cg3, .int .i64 N1.out] 25
      have B26 := below_then B2y3 B2y3.size D6
      obtain ⟨a0, a1, a2⟩ := rows x6 B26
      obtain ⟨x7, hx7, -, -, z7, D7, r7⟩ := new_block x6 #[.int .i64 2, .int .i64 1] 3
      rw [z6] at z7 r7
      have B27 := below_then B26 B26.size D7
      have C := Cofactor_any _ _ exN [2, 1] x7 (nets x7 B27) (ints_row (n := 2) r7 rfl (i64s rfl) (by omega)) (by decide) (by decide)
      have hk := kn_cof2
      revert hk C
      generalize cofactorP exN [2, 1] = R
      intro C hk
      obtain ⟨N2, R2⟩ := R
      obtain rfl : R2 = 2 := hk
      go_wp2_with fail
      refine C.mono ?_
      rintro e y4 ⟨hY4, vr4, rfl, hF4⟩
      have B2y4 := below_then B27 B27.size hY4
      obtain ⟨p4, g4, rfl, -, hp4, hg4⟩ := hF4.at
      obtain ⟨Ap4, cp4, rfl, -, -⟩ := hp4.form
      obtain ⟨Ag4, cg4, rfl, -, -⟩ := hg4.form
      clear C hx6 hx7 z6 z7 r7 D7 r6 D6 a0 a1 a2 hF4 hp4 hg4
      obtain ⟨x8, hx8, -, -, z8', D8, r8⟩ := new_block y4 #[.slice Ap4 N2.pre.length cp4, .slice Ag4 N2.gates.length cg4, .int .i64 N2.out] 25
      have B28 := below_then B2y4 B2y4.size D8
      obtain ⟨a0, a1, a2⟩ := rows x8 B28
      have C := Compose_any _ _ exN exN 4 x8 (nets x8 B28) (nets x8 B28) (by unfold I64; omega) (by decide) (by decide) (by decide) (by decide)
      have hk := kn_comp1
      revert hk C
      generalize composeP exN 4 exN = R
      intro C hk
      obtain ⟨N3, R2⟩ := R
      obtain rfl : R2 = 6 := hk
      go_wp2_with fail
      refine C.mono ?_
      rintro e y5 ⟨hY5, vr5, rfl, hF5⟩
      have B2y5 := below_then B28 B28.size hY5
      obtain ⟨p5, g5, rfl, -, hp5, hg5⟩ := hF5.at
      obtain ⟨Ap5, cp5, rfl, -, -⟩ := hp5.form
      obtain ⟨Ag5, cg5, rfl, -, -⟩ := hg5.form
      clear C hx8 z8' D8 r8 a0 a1 a2 hF5 hp5 hg5
      obtain ⟨xa, hxa, -, -, za, Da, ra⟩ := new_block y5 #[.slice Ap5 N3.pre.length cp5, .slice Ag5 N3.gates.length cg5, .int .i64 N3.out] 25
      have B2a := below_then B2y5 B2y5.size Da
      obtain ⟨a0, a1, a2⟩ := rows xa B2a
      have C := Compose_any _ _ exN exN 3 xa (nets xa B2a) (nets xa B2a) (by unfold I64; omega) (by decide) (by decide) (by decide) (by decide)
      have hk := kn_comp2
      revert hk C
      generalize composeP exN 3 exN = R
      intro C hk
      obtain ⟨N4, R2⟩ := R
      obtain rfl : R2 = 4 := hk
      go_wp2_with fail
      refine C.mono ?_
      rintro e y6 ⟨hY6, vr6, rfl, hF6⟩
      have B2y6 := below_then B2a B2a.size hY6
      obtain ⟨p6, g6, rfl, -, hp6, hg6⟩ := hF6.at
      obtain ⟨Ap6, cp6, rfl, -, -⟩ := hp6.form
      obtain ⟨Ag6, cg6, rfl, -, -⟩ := hg6.form
      clear C hxa za Da ra a0 a1 a2 hF6 hp6 hg6
      obtain ⟨xb, hxb, -, -, zb, Db, rb⟩ := new_block y6 #[.slice Ap6 N4.pre.length cp6, .slice Ag6 N4.gates.length cg6, .int .i64 N4.out] 25
      have B2b := below_then B2y6 B2y6.size Db
      have hZ : NetAt xb (.agg #[.slice none 0 0, .slice none 0 0, .int .i64 0]) ⟨[], [], 0⟩ := ⟨_, _, rfl, by unfold I64; simp, ⟨none, 0, rfl, Nat.le_refl _, by omega, fun h => by simp at h⟩, gates_none _⟩
      have C := Eval_any _ (.slice none 0 0) ⟨[], [], 0⟩ [] xb hZ ⟨none, 0, rfl, Nat.le_refl _, by omega, fun h => by simp at h⟩ (by decide)
      rw [kn_zero] at C
      go_wp2_with fail
      refine C.mono ?_
      rintro e y7 ⟨rfl, hY7⟩
      have B2y7 := below_then B2b B2b.size hY7
      obtain ⟨a0, a1, a2⟩ := rows y7 B2y7
      clear C hxb zb Db rb hZ
      have C := Support_any _ exN 0 y7 (nets y7 B2y7) (by unfold I64; omega) (by decide) (by decide)
      have hk := kn_sup
      revert hk C
      generalize supportP exN 0 = R
      intro C hk
      obtain ⟨N5, R2⟩ := R
      obtain rfl : R2 = 6 := hk
      go_wp2_with fail
      refine C.mono ?_
      rintro e y8 ⟨hY8, vr8, rfl, -⟩
      have B2y8 := below_then B2y7 B2y7.size hY8
      clear C a0 a1 a2
      obtain ⟨v0, hv0, -, -, u0, D0, r0⟩ := new_block y8 #[.bool false, .slice none 0 0] 80
      obtain ⟨v1, hv1, -, -, u1, D1, r1⟩ := new_block v0 #[.int .i64 1] 3
      rw [u0] at u1 r1
      obtain ⟨v2, hv2, -, -, u2, D2, r2⟩ := new_block v1 #[.int .i64 2] 3
      rw [u1] at u2 r2
      obtain ⟨v3, hv3, -, -, u3, D3, r3⟩ := new_block v2 #[.bool false, .slice (some ⟨y8.heap.size + 1, 0, none⟩) 1 1, .bool false, .slice (some ⟨y8.heap.size + 1 + 1, 0, none⟩) 1 1] 80
      rw [u2] at u3 r3
      obtain ⟨v4, hv4, -, -, u4, D4, r4⟩ := new_block v3 #[.int .i64 1, .int .i64 1] 3
      rw [u3] at u4 r4
      obtain ⟨v5, hv5, -, -, u5, D5, r5⟩ := new_block v4 #[.bool false, .slice (some ⟨y8.heap.size + 1 + 1 + 1 + 1, 0, none⟩) 2 2] 80
      rw [u4] at u5 r5
      obtain ⟨v6, hv6, -, -, u6, D6, r6⟩ := new_block v5 #[.int .i64 1] 3
      rw [u5] at u6 r6
      obtain ⟨v7, hv7, -, -, u7, D7, r7⟩ := new_block v6 #[.bool false, .slice (some ⟨y8.heap.size + 1 + 1 + 1 + 1 + 1 + 1, 0, none⟩) 1 1] 80
      rw [u6] at u7 r7
      obtain ⟨v8, hv8, -, -, u8, D8, r8⟩ := new_block v7 #[.int .i64 2] 3
      rw [u7] at u8 r8
      obtain ⟨v9, hv9, -, -, u9, D9, r9⟩ := new_block v8 #[.int .i64 2, .int .u8 1, .slice (some ⟨y8.heap.size + 1 + 1 + 1 + 1 + 1 + 1 + 1 + 1, 0, none⟩) 1 1] 70
      rw [u8] at u9 r9
      obtain ⟨v10, hv10, -, -, u10, D10, r10⟩ := new_block v9 #[.int .i64 1] 3
      rw [u9] at u10 r10
      obtain ⟨v11, hv11, -, -, u11, D11, r11⟩ := new_block v10 #[.bool false, .slice (some ⟨y8.heap.size + 1 + 1 + 1 + 1 + 1 + 1 + 1 + 1 + 1 + 1, 0, none⟩) 1 1] 80
      rw [u10] at u11 r11
      obtain ⟨v12, hv12, -, -, u12, D12, r12⟩ := new_block v11 #[.int .i64 1] 3
      rw [u11] at u12 r12
      obtain ⟨v13, hv13, -, -, u13, D13, r13⟩ := new_block v12 #[.int .i64 2, .int .u8 3, .slice (some ⟨y8.heap.size + 1 + 1 + 1 + 1 + 1 + 1 + 1 + 1 + 1 + 1 + 1 + 1, 0, none⟩) 1 1] 70
      rw [u12] at u13 r13
      obtain ⟨v14, hv14, -, -, u14, D14, r14⟩ := new_block v13 #[.int .i64 65537] 3
      rw [u13] at u14 r14
      obtain ⟨v15, hv15, -, -, u15, D15, r15⟩ := new_block v14 #[.bool false, .slice (some ⟨y8.heap.size + 1 + 1 + 1 + 1 + 1 + 1 + 1 + 1 + 1 + 1 + 1 + 1 + 1 + 1, 0, none⟩) 1 1] 80
      rw [u14] at u15 r15
      obtain ⟨v16, hv16, -, -, u16, D16, r16⟩ := new_block v15 #[.slice none 0 0, .slice none 0 0, .int .i64 1, .slice (some ⟨y8.heap.size, 0, none⟩) 1 1, .slice none 0 0, .int .i64 1, .slice (some ⟨y8.heap.size + 1 + 1 + 1, 0, none⟩) 2 2, .slice none 0 0, .int .i64 1, .slice (some ⟨y8.heap.size + 1 + 1 + 1 + 1 + 1, 0, none⟩) 1 1, .slice none 0 0, .int .i64 1, .slice (some ⟨y8.heap.size + 1 + 1 + 1 + 1 + 1 + 1 + 1, 0, none⟩) 1 1, .slice (some ⟨y8.heap.size + 1 + 1 + 1 + 1 + 1 + 1 + 1 + 1 + 1, 0, none⟩) 1 1, .int .i64 2, .slice (some ⟨y8.heap.size + 1 + 1 + 1 + 1 + 1 + 1 + 1 + 1 + 1 + 1 + 1, 0, none⟩) 1 1, .slice (some ⟨y8.heap.size + 1 + 1 + 1 + 1 + 1 + 1 + 1 + 1 + 1 + 1 + 1 + 1 + 1, 0, none⟩) 1 1, .int .i64 2, .slice (some ⟨y8.heap.size + 1 + 1 + 1 + 1 + 1 + 1 + 1 + 1 + 1 + 1 + 1 + 1 + 1 + 1 + 1, 0, none⟩) 1 1, .slice none 0 0, .int .i64 1] 25
      rw [u15] at u16 r16
      have R0 := (row_below (row_below (row_below (row_below (row_below (row_below (row_below (row_below (row_below (row_below (row_below (row_below (row_below (row_below (row_below (row_below r0 D1) D2) D3) D4) D5) D6) D7) D8) D9) D10) D11) D12) D13) D14) D15) D16)
      have R1 := (row_below (row_below (row_below (row_below (row_below (row_below (row_below (row_below (row_below (row_below (row_below (row_below (row_below (row_below (row_below r1 D2) D3) D4) D5) D6) D7) D8) D9) D10) D11) D12) D13) D14) D15) D16)
      have R2 := (row_below (row_below (row_below (row_below (row_below (row_below (row_below (row_below (row_below (row_below (row_below (row_below (row_below (row_below r2 D3) D4) D5) D6) D7) D8) D9) D10) D11) D12) D13) D14) D15) D16)
      have R3 := (row_below (row_below (row_below (row_below (row_below (row_below (row_below (row_below (row_below (row_below (row_below (row_below (row_below r3 D4) D5) D6) D7) D8) D9) D10) D11) D12) D13) D14) D15) D16)
      have R4 := (row_below (row_below (row_below (row_below (row_below (row_below (row_below (row_below (row_below (row_below (row_below (row_below r4 D5) D6) D7) D8) D9) D10) D11) D12) D13) D14) D15) D16)
      have R5 := (row_below (row_below (row_below (row_below (row_below (row_below (row_below (row_below (row_below (row_below (row_below r5 D6) D7) D8) D9) D10) D11) D12) D13) D14) D15) D16)
      have R6 := (row_below (row_below (row_below (row_below (row_below (row_below (row_below (row_below (row_below (row_below r6 D7) D8) D9) D10) D11) D12) D13) D14) D15) D16)
      have R7 := (row_below (row_below (row_below (row_below (row_below (row_below (row_below (row_below (row_below r7 D8) D9) D10) D11) D12) D13) D14) D15) D16)
      have R8 := (row_below (row_below (row_below (row_below (row_below (row_below (row_below (row_below r8 D9) D10) D11) D12) D13) D14) D15) D16)
      have R9 := (row_below (row_below (row_below (row_below (row_below (row_below (row_below r9 D10) D11) D12) D13) D14) D15) D16)
      have R10 := (row_below (row_below (row_below (row_below (row_below (row_below r10 D11) D12) D13) D14) D15) D16)
      have R11 := (row_below (row_below (row_below (row_below (row_below r11 D12) D13) D14) D15) D16)
      have R12 := (row_below (row_below (row_below (row_below r12 D13) D14) D15) D16)
      have R13 := (row_below (row_below (row_below r13 D14) D15) D16)
      have R14 := (row_below (row_below r14 D15) D16)
      have R15 := (row_below r15 D16)
      have R16 := r16
      have DE : Below y8.heap.size y8 v16 := (below_then (below_then (below_then (below_then (below_then (below_then (below_then (below_then (below_then (below_then (below_then (below_then (below_then (below_then (below_then (below_then D0 (by omega) D1) (by omega) D2) (by omega) D3) (by omega) D4) (by omega) D5) (by omega) D6) (by omega) D7) (by omega) D8) (by omega) D9) (by omega) D10) (by omega) D11) (by omega) D12) (by omega) D13) (by omega) D14) (by omega) D15) (by omega) D16)
      have B2v := below_then B2y8 B2y8.size DE
      have P0 : BlocksAt v16 (.slice (some ⟨y8.heap.size, 0, none⟩) 1 1) [⟨false, []⟩] := by
        refine blocks_row [⟨false, []⟩] [.slice none 0 0] rfl rfl (by omega) R0 (fun i p v hp hv => ?_)
        match i, hp, hv with
        | 0, hp, hv => injection hp with hp; injection hv with hv; subst hp; subst hv; exact ⟨none, 0, rfl, Nat.le_refl _, by omega, fun h => by simp at h⟩
        | i + 1, hp, hv => simp at hp
      have P3 : BlocksAt v16 (.slice (some ⟨y8.heap.size + 1 + 1 + 1, 0, none⟩) 2 2) [⟨false, [1]⟩, ⟨false, [2]⟩] := by
        refine blocks_row [⟨false, [1]⟩, ⟨false, [2]⟩] [.slice (some ⟨y8.heap.size + 1, 0, none⟩) 1 1, .slice (some ⟨y8.heap.size + 1 + 1, 0, none⟩) 1 1] rfl rfl (by omega) R3 (fun i p v hp hv => ?_)
        match i, hp, hv with
        | 0, hp, hv => injection hp with hp; injection hv with hv; subst hp; subst hv; exact ints_row (n := 1) R1 rfl (i64s rfl) (by omega)
        | 1, hp, hv => injection hp with hp; injection hv with hv; subst hp; subst hv; exact ints_row (n := 1) R2 rfl (i64s rfl) (by omega)
        | i + 2, hp, hv => simp at hp
      have P5 : BlocksAt v16 (.slice (some ⟨y8.heap.size + 1 + 1 + 1 + 1 + 1, 0, none⟩) 1 1) [⟨false, [1, 1]⟩] := by
        refine blocks_row [⟨false, [1, 1]⟩] [.slice (some ⟨y8.heap.size + 1 + 1 + 1 + 1, 0, none⟩) 2 2] rfl rfl (by omega) R5 (fun i p v hp hv => ?_)
        match i, hp, hv with
        | 0, hp, hv => injection hp with hp; injection hv with hv; subst hp; subst hv; exact ints_row (n := 2) R4 rfl (i64s rfl) (by omega)
        | i + 1, hp, hv => simp at hp
      have P7 : BlocksAt v16 (.slice (some ⟨y8.heap.size + 1 + 1 + 1 + 1 + 1 + 1 + 1, 0, none⟩) 1 1) [⟨false, [1]⟩] := by
        refine blocks_row [⟨false, [1]⟩] [.slice (some ⟨y8.heap.size + 1 + 1 + 1 + 1 + 1 + 1, 0, none⟩) 1 1] rfl rfl (by omega) R7 (fun i p v hp hv => ?_)
        match i, hp, hv with
        | 0, hp, hv => injection hp with hp; injection hv with hv; subst hp; subst hv; exact ints_row (n := 1) R6 rfl (i64s rfl) (by omega)
        | i + 1, hp, hv => simp at hp
      have P11 : BlocksAt v16 (.slice (some ⟨y8.heap.size + 1 + 1 + 1 + 1 + 1 + 1 + 1 + 1 + 1 + 1 + 1, 0, none⟩) 1 1) [⟨false, [1]⟩] := by
        refine blocks_row [⟨false, [1]⟩] [.slice (some ⟨y8.heap.size + 1 + 1 + 1 + 1 + 1 + 1 + 1 + 1 + 1 + 1, 0, none⟩) 1 1] rfl rfl (by omega) R11 (fun i p v hp hv => ?_)
        match i, hp, hv with
        | 0, hp, hv => injection hp with hp; injection hv with hv; subst hp; subst hv; exact ints_row (n := 1) R10 rfl (i64s rfl) (by omega)
        | i + 1, hp, hv => simp at hp
      have P15 : BlocksAt v16 (.slice (some ⟨y8.heap.size + 1 + 1 + 1 + 1 + 1 + 1 + 1 + 1 + 1 + 1 + 1 + 1 + 1 + 1 + 1, 0, none⟩) 1 1) [⟨false, [65537]⟩] := by
        refine blocks_row [⟨false, [65537]⟩] [.slice (some ⟨y8.heap.size + 1 + 1 + 1 + 1 + 1 + 1 + 1 + 1 + 1 + 1 + 1 + 1 + 1 + 1, 0, none⟩) 1 1] rfl rfl (by omega) R15 (fun i p v hp hv => ?_)
        match i, hp, hv with
        | 0, hp, hv => injection hp with hp; injection hv with hv; subst hp; subst hv; exact ints_row (n := 1) R14 rfl (i64s rfl) (by omega)
        | i + 1, hp, hv => simp at hp
      have G9 : GatesAt v16 (.slice (some ⟨y8.heap.size + 1 + 1 + 1 + 1 + 1 + 1 + 1 + 1 + 1, 0, none⟩) 1 1) [⟨2, 1, [2]⟩] := by
        refine gates_row [⟨2, 1, [2]⟩] [(2, 1, some ⟨y8.heap.size + 1 + 1 + 1 + 1 + 1 + 1 + 1 + 1, 0, none⟩, 1, 1)] rfl rfl (by omega) R9 (fun i p v hp hv => ?_)
        match i, hp, hv with
        | 0, hp, hv => injection hp with hp; injection hv with hv; subst hp; subst hv; exact ⟨rfl, rfl, by unfold I64; simp, ints_row (n := 1) R8 rfl (i64s rfl) (by simp)⟩
        | i + 1, hp, hv => simp at hp
      have G13 : GatesAt v16 (.slice (some ⟨y8.heap.size + 1 + 1 + 1 + 1 + 1 + 1 + 1 + 1 + 1 + 1 + 1 + 1 + 1, 0, none⟩) 1 1) [⟨2, 3, [1]⟩] := by
        refine gates_row [⟨2, 3, [1]⟩] [(2, 3, some ⟨y8.heap.size + 1 + 1 + 1 + 1 + 1 + 1 + 1 + 1 + 1 + 1 + 1 + 1, 0, none⟩, 1, 1)] rfl rfl (by omega) R13 (fun i p v hp hv => ?_)
        match i, hp, hv with
        | 0, hp, hv => injection hp with hp; injection hv with hv; subst hp; subst hv; exact ⟨rfl, rfl, by unfold I64; simp, ints_row (n := 1) R12 rfl (i64s rfl) (by simp)⟩
        | i + 1, hp, hv => simp at hp
      have PN : BlocksAt v16 (.slice none 0 0) [] := ⟨none, 0, rfl, Nat.le_refl _, by omega, fun h => by simp at h⟩
      have GN := gates_none v16
      have rowsB : ∀ W, Below v16.heap.size v16 W → ∀ j, j < 7 → ∃ A B n m o, W.cell? ⟨y8.heap.size + 1 + 1 + 1 + 1 + 1 + 1 + 1 + 1 + 1 + 1 + 1 + 1 + 1 + 1 + 1 + 1, j * 3, none⟩ = some (.slice A n n) ∧ W.cell? ⟨y8.heap.size + 1 + 1 + 1 + 1 + 1 + 1 + 1 + 1 + 1 + 1 + 1 + 1 + 1 + 1 + 1 + 1, j * 3 + 1, none⟩ = some (.slice B m m) ∧ W.cell? ⟨y8.heap.size + 1 + 1 + 1 + 1 + 1 + 1 + 1 + 1 + 1 + 1 + 1 + 1 + 1 + 1 + 1 + 1, j * 3 + 2, none⟩ = some (.int .i64 o) ∧ NetAt W (.agg #[.slice A n n, .slice B m m, .int .i64 o]) (knB j) := fun W hW j hj => by
        have r9 := row_below R16 hW
        have kp := keeps_below hW
        match j, hj with
        | 0, _ => exact ⟨_, _, _, _, _, cell_row r9 rfl, cell_row r9 rfl, cell_row r9 rfl, _, _, rfl, by unfold I64 knB; simp, PN.keep kp, GN.keep kp⟩
        | 1, _ => exact ⟨_, _, _, _, _, cell_row r9 rfl, cell_row r9 rfl, cell_row r9 rfl, _, _, rfl, by unfold I64 knB; simp, P0.keep kp, GN.keep kp⟩
        | 2, _ => exact ⟨_, _, _, _, _, cell_row r9 rfl, cell_row r9 rfl, cell_row r9 rfl, _, _, rfl, by unfold I64 knB; simp, P3.keep kp, GN.keep kp⟩
        | 3, _ => exact ⟨_, _, _, _, _, cell_row r9 rfl, cell_row r9 rfl, cell_row r9 rfl, _, _, rfl, by unfold I64 knB; simp, P5.keep kp, GN.keep kp⟩
        | 4, _ => exact ⟨_, _, _, _, _, cell_row r9 rfl, cell_row r9 rfl, cell_row r9 rfl, _, _, rfl, by unfold I64 knB; simp, P7.keep kp, G9.keep kp⟩
        | 5, _ => exact ⟨_, _, _, _, _, cell_row r9 rfl, cell_row r9 rfl, cell_row r9 rfl, _, _, rfl, by unfold I64 knB; simp, P11.keep kp, G13.keep kp⟩
        | 6, _ => exact ⟨_, _, _, _, _, cell_row r9 rfl, cell_row r9 rfl, cell_row r9 rfl, _, _, rfl, by unfold I64 knB; simp, P15.keep kp, GN.keep kp⟩
        | j + 7, h => omega
      clear R0 r0 D0 R1 r1 D1 R2 r2 D2 R3 r3 D3 R4 r4 D4 R5 r5 D5 R6 r6 D6 R7 r7 D7 R8 r8 D8 R9 r9 D9 R10 r10 D10 R11 r11 D11 R12 r12 D12 R13 r13 D13 R14 r14 D14 R15 r15 D15 R16 r16 D16 P0 P3 P5 P7 P11 P15 G9 G13 PN GN
      go_wp2_with fail
      go_loopg [29, 206] 7 (fun gg _ s206 wr => ∃ (j : Nat), j ≤ 7 ∧ 7 - j ≤ gg ∧ s206 = .int .i64 j ∧ Below v16.heap.size v16 wr)
      case atStart => exact ⟨0, by omega, by omega, rfl, Below.refl _ _⟩
      case round =>
        obtain ⟨j, hj, hg, rfl, hBj⟩ := hrel
        by_cases hlt : j < 7
        · have hlz : (j : Int) < 7 := by omega
          obtain ⟨A, B, n, m, o, e0, e1, e2, hNj⟩ := rowsB wr hBj j hlt
          obtain ⟨vw, hvw, -, -, uw, Dw, rw'⟩ := new_block wr #[.slice A n n, .slice B m m, .int .i64 o] 25
          have C := May_any _ (knB j) vw (hNj.keep (keeps_below Dw)) (kn_small j hlt)
          rw [kn_bad j hlt] at C
          have d0 := cell_row rw' (j := 0) (v := .slice A n n) rfl
          have d1 := cell_row rw' (j := 1) (v := .slice B m m) rfl
          have d2 := cell_row rw' (j := 2) (v := .int .i64 o) rfl
          clear rw'
          go_wp2_with fail
          refine C.mono ?_
          rintro e vz ⟨rfl, hVz⟩
          go_wp2_with fail
          go_roundg (7 - (j + 1))
          case measure => omega
          case rel => exact ⟨j + 1, by omega, by omega, by go_num, below_then hBj hBj.size (below_then Dw Dw.size hVz)⟩
        · obtain rfl : j = 7 := by omega
          clear hlt hg hj
          have CW := works_any wr
          go_wp2_with fail
          refine CW.mono ?_
          rintro e ve ⟨rfl, hVe⟩
          go_wp2_with fail
          go_ret
          exact ⟨rfl, below_then hB02 hB02.size (below_then B2v B2v.size (below_then hBj hBj.size hVe))⟩
end Go.Proofs.Ytnlobmepajakcaa
