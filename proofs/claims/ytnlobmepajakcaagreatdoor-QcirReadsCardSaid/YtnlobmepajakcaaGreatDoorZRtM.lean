/- What Read of the document's reader does with any text; the condition: texts have at most 2^22 bytes. -/
import Derived.Test.YtnlobmepajakcaaGreatDoorZRtO
import Derived.Test.YtnlobmepajakcaaGreatDoorZOrdR
set_option linter.unusedVariables false
set_option linter.unusedSimpArgs false
namespace Go.Proofs.YtnlobmepajakcaaGreatDoor
open Go.RowKit Go.Shelf
attribute [local go_sem] Oper.semAt_some

theorem readR_net {w wr : World} {n0 n1 : Nat} {pv : Value} {p : List PBlock} {gs : List PGate} {out : Int} (hout : -65536 ≤ out ∧ out ≤ 65536) (hP : PreAt wr n0 n1 pv p) (hn1 : n1 ≤ wr.heap.size) (hI : ∀ x ∈ p, ∀ y ∈ x.vars, I64 y) {wo W9 : World} {base : Nat} {v : Value}
    (hBo : Below wr.heap.size wr wo) (hG : RowG (keepOnly (fun k => decide (n0 ≤ k)) wr) wo base v gs) (hb : n0 ≤ base) (hB9 : Below w.heap.size w W9) (hs9 : wo.heap.size ≤ W9.heap.size) (hk9 : ∀ k, n0 ≤ k → k < wo.heap.size → W9.heap[k]? = wo.heap[k]?) :
    ReadPost w (⟨p, gs, out⟩, 0, 0) (.returned (.tuple #[.agg #[pv, v, .int .i64 out], .int .i64 0, .int .i64 0])) W9 := by
  have hso := hBo.size
  refine ⟨hB9, _, rfl, _, _, rfl, ⟨by simp only []; omega, by simp only []; omega⟩, ?_, ?_⟩
  · exact blocks_of_out ((hP.keep (fun k h1 h2 => (hk9 k h1 (by omega)).trans (hBo.block k (by omega)))).out (by omega)) hI
  · obtain ⟨es, g1, g2, g3⟩ := hG
    exact RowG.at ⟨es, g1, own_move g2 (fun b cs fr hb' hc => (hk9 b (by omega) (row_lt hc)).trans hc), g3⟩ (snap_keeps (fun k h1 h2 => (hk9 k h1 (by omega)).trans (hBo.block k h2)))

set_option maxRecDepth 100000 in
set_option maxHeartbeats 4000000 in
theorem readR_main (s : Bs) (w : World) (hl : ¬ 4194304 < s.length) : Calls Tryz.prog 28 #[.string ⟨s.toArray⟩] w (ReadPost w (readW tokL s)) := by
  obtain ⟨w1, hw1, -, -, hz1, hB1, q1⟩ := new_block w #[.slice none 0 0, .slice none 0 0, .int .i64 0] 40
  have hz : ¬ (4194304 : Int) < (s.length : Int) := by omega
  have hmk := make47 w1
  have hS2 := set_made w1
  have hB2 : Below w1.heap.size w1 (w1.alloc (.cells (madeCells #[Value.bool false] 65537) 4)) := (Below.refl _ w1).alloc (Nat.le_refl _) _
  have hz2 : (w1.alloc (.cells (madeCells #[Value.bool false] 65537) 4)).heap.size = w1.heap.size + 1 := World.size_alloc _ _
  revert hmk hS2 hB2 hz2
  generalize w1.alloc (.cells (madeCells #[Value.bool false] 65537) 4) = w2
  intro hmk hS2 hB2 hz2
  obtain ⟨w3, hw3, -, -, hz3, hB3, q3⟩ := new_block w2 #[.slice none 0 0, .slice none 0 0, .int .i64 0, .slice (some ⟨w.heap.size + 1, 0, none⟩) 65537 65537, .int .i64 0, .int .i64 0, .int .i64 0, .slice none 0 0] 111
  have q13 := row_below (row_below q1 hB2) hB3
  have hB03 := below_then (below_then hB1 hB1.size hB2) (by omega) hB3
  rw [hz1] at hmk hS2 hz2
  rw [hz2] at q3 hz3
  have hR3 : RdrR w3 w3.heap.size (w.heap.size + 1 + 1) (w.heap.size + 1) rs0 1 := ⟨by omega, by omega, Nat.le_refl _, rs0_ok 1, _, _, _, ⟨q3, hS2.below hB3, by omega⟩, .inl ⟨rfl, rfl, rfl, rfl, rfl, .inl ⟨rfl, rfl⟩⟩⟩
  have hF3 := Fr2.refl w3.heap.size (w.heap.size + 1 + 1) (w.heap.size + 1) w3
  have HFin : Hid (∀ W, Fr2 w3.heap.size (w.heap.size + 1 + 1) (w.heap.size + 1) w3 W → W.heap[w.heap.size]? = some (.cells #[.slice none 0 0, .slice none 0 0, .int .i64 0] 40 (0, 0)) ∧ Below w.heap.size w W) := hid (fun W hW =>
    ⟨(hW.block w.heap.size (by omega) (by omega) (by omega)).trans q13, hB03.trans (hW.toBelow (by omega) (by omega) (by omega))⟩)
  clear q1 q13 hB2 hB3 hS2 hB03 hB1 q3
  go_enter Tryz.func28, Tryz.ntmps28
  go_wp2_with fail
  clear hmk
  go_loopg [6, 7, 8, 9, 10, 11] (s.length + 1) (fun gg s6 s7 _ _ _ _ wr => ∃ (i kn : Nat) (R : RS), i ≤ s.length + 1 ∧ s.length + 1 - i ≤ gg ∧ s7 = .int .i64 (i : Int) ∧ s6 = .int .i64 (kn : Int) ∧ kn ≤ i ∧ Fr2 w3.heap.size (w.heap.size + 1 + 1) (w.heap.size + 1) w3 wr ∧ RdrR wr w3.heap.size (w.heap.size + 1 + 1) (w.heap.size + 1) R (kn + 1) ∧ Hid (linesP tokL rs0 1 (splitNL s) = linesP tokL R (kn + 1) (splitNL (s.drop i))))
  case atStart => exact ⟨0, 0, rs0, by omega, by omega, rfl, rfl, by omega, hF3, hR3, hid rfl⟩
  case round =>
    clear hF3 hR3
    obtain ⟨i, kn, R, hi, hg, rfl, rfl, hki, hF, hR, HL⟩ := hrel
    have hws := hR.size
    by_cases hlt : i < s.length
    · have hltz : (i : Int) < (s.length : Int) := by omega
      have HS := hid (split_tw (s.drop i) (fun e => by have := congrArg List.length e; simp at this; omega))
      have hn := tw_le (fun c => c != 10) (s.drop i)
      rw [List.length_drop] at hn
      have hget : Hid (∀ (j : Nat) (c : UInt8), s[i + j]? = some c → j < ((s.drop i).takeWhile (fun c => c != 10)).length → (c != 10) = true) := hid (fun j c hc hj => tw_get (fun c => c != 10) (s.drop i) j c (by rw [List.getElem?_drop]; exact hc) hj)
      have hstop : Hid (∀ c : UInt8, s[i + ((s.drop i).takeWhile (fun c => c != 10)).length]? = some c → (c != 10) = false) := hid (fun c hc => tw_stop (fun c => c != 10) (s.drop i) c (by rw [List.getElem?_drop]; exact hc))
      have hex : Hid (∀ k, k = i + ((s.drop i).takeWhile (fun c => c != 10)).length → (⟨s.toArray⟩ : ByteArray).extract i k = ⟨((s.drop i).takeWhile (fun c => c != 10)).toArray⟩) := hid (fun k hk => by rw [ex_mid s i _ k hk, tw_take])
      generalize (s.drop i).takeWhile (fun c => c != 10) = t at HS hn hget hstop hex
      have HL2 : Hid (linesP tokL rs0 1 (splitNL s) = linesP tokL R (kn + 1) (t :: splitNL (s.drop (i + t.length + 1)))) := hid (by rw [HL.out, HS.out, List.drop_drop]; rfl)
      clear HS HL
      generalize hnn : t.length = n at *
      replace hnn := hid hnn
      go_wp2_with fail
      go_loopg [8] n (fun gg s8 wr' => ∃ k : Nat, i ≤ k ∧ k ≤ i + n ∧ i + n - k ≤ gg ∧ s8 = .int .i64 (k : Int) ∧ wr' = wr)
      case atStart => exact ⟨i, by omega, by omega, by omega, rfl, rfl⟩
      case round =>
        obtain ⟨k, hk, hj, hgj, rfl, hw⟩ := hrel
        subst hw
        by_cases hjn : k < i + n
        · obtain ⟨c2, hc2, -, -⟩ := nth (show k < s.length by omega)
          have hb2 := byte_at hc2
          have h10 := hget.out (k - i) c2 (by rw [show i + (k - i) = k by omega]; exact hc2) (by omega)
          have hz10 : ((c2.toNat : Int) != 10) = true := bne_iff_ne.2 (fun e => by
            have e2 : c2 = 10 := UInt8.toNat_inj.1 (by show c2.toNat = 10; omega)
            subst e2; cases h10)
          have hkz : (k : Int) < (s.length : Int) := by omega
          clear hc2 h10
          go_wp2_with fail
          go_roundg (i + n - (k + 1))
          case measure => omega
          case rel => exact ⟨k + 1, by omega, by omega, by omega, by go_num, rfl⟩
        · have hkn : k = i + n := by omega
          have he := hex.out k hkn
          have hiz : (i : Int) ≤ (k : Int) := by omega
          have hkl : (k : Int) ≤ (s.length : Int) := by omega
          have hst : ∀ c : UInt8, s[k]? = some c → c = 10 := fun c hc => by
            have := hstop.out c (by rw [← hkn]; exact hc)
            simpa using this
          have HL3 : Hid (linesP tokL rs0 1 (splitNL s) = linesP tokL R (kn + 1) (t :: splitNL (s.drop (k + 1)))) := hid (by rw [hkn]; exact HL2.out)
          have htl : t.length ≤ 4194304 := by have := hnn.out; omega
          have CB := blank_any t wr (by omega)
          have CP := parse_any t wr htl
          replace hst := hid hst
          clear hkn hj hjn HL2 hnn hex hget hstop
          by_cases hks : k < s.length
          · obtain ⟨c2, hc2, -, -⟩ := nth hks
            have hb2 := byte_at hc2
            obtain rfl := hst.out c2 hc2
            have hkz : (k : Int) < (s.length : Int) := by omega
            clear hc2
            clear hltz hlt
            cases hbl : blankB t with
            | true =>
              rw [hbl] at CB
              have HNx : Hid (linesP tokL rs0 1 (splitNL s) = linesP tokL R (kn + 1 + 1) (splitNL (s.drop (k + 1)))) := hid (by rw [HL3.out, lines_blank hbl])
              have hRn : RdrR wr w3.heap.size (w.heap.size + 1 + 1) (w.heap.size + 1) R (kn + 1 + 1) := hR.more
              clear hbl CP HL3
              go_wp2_with (first | (go_at_call 64; refine CB.mono ?_; rintro e w' ⟨rfl, hw⟩; obtain rfl : wr = w' := hw.symm) | fail)
              go_roundg (s.length + 1 - (k + 1))
              case measure => omega
              case rel => exact ⟨k + 1, kn + 1, R, by omega, by omega, by go_num, by go_num, by omega, hF, hRn, HNx⟩
            | false =>
              rw [hbl] at CB
              have HB := hid hbl
              clear hbl
              go_wp2_with (first | (go_at_call 64; refine CB.mono ?_; rintro e w' ⟨rfl, hw⟩; obtain rfl : wr = w' := hw.symm) | fail)
              clear CB
              refine CP.mono ?_
              rintro e w4 ⟨hB4, word, A, m, c, var, ok, rfl, hM⟩
              obtain ⟨w5, hw5, -, -, hz5, hB5, q5⟩ := new_block w4 #[.string ⟨word.toArray⟩, .slice A m c, .int .i64 var] 113
              have hF5 : Fr2 w3.heap.size (w.heap.size + 1 + 1) (w.heap.size + 1) w3 w5 := hF.trans (Fr2.below ((below_then hB4 hB4.size hB5).mono hws))
              clear CP
              cases ok with
              | false =>
                have hPb : tokL t = .bad := by
                  rcases hM with ⟨_, h⟩ | ⟨h, _⟩
                  · exact h
                  · cases h
                have HP := hid (show readW tokL s = (noNet, kn + 1, 5) by rw [read_err2 hl HL3.out HB.out (by rw [hPb]; exact (show (5 : Int) ≠ 0 by decide)), hPb]; rfl)
                obtain ⟨qW, hBW⟩ := HFin.out w5 hF5
                obtain ⟨f0, c0, f1, c1, f2, c2, rr, gg⟩ := put25 qW (.slice none 0 0) (.slice none 0 0) (.int .i64 0)
                clear hPb hM q5
                go_wp2_with fail
                refine bodyPost_ret (results_row_tmp2Q (p := 2) (u := 3) (x := 4) (ty := 40) rfl _ _ w.heap.size 40 _ (0, 0) _ rfl rr Tryz.underlying40 rfl (by kernel_rfl)) rfl ?_
                rw [HP.out]
                exact ⟨hBW.grown gg hBW.size (fun k e => by cases e; exact Nat.le_refl _), _, rfl, noNet_at _⟩
              | true =>
                have CA := addR_any w3.heap.size (w.heap.size + 1 + 1) (w.heap.size + 1) (kn + 1) R t word A m c var wr w4 w5 hR hB4 hB5 hM htl (by omega)
                have x0 := cell_row q5 (j := 0) (v := .string ⟨word.toArray⟩) rfl
                have x1 := cell_row q5 (j := 1) (v := .slice A m c) rfl
                have x2 := cell_row q5 (j := 2) (v := .int .i64 var) rfl
                have hcast : ((kn + 1 : Nat) : Int) = (kn : Int) + 1 := by omega
                rw [hcast] at CA
                clear hM q5
                go_wp2_with fail
                refine CA.mono ?_
                rintro e w6 ⟨rfl, hF6, hR6⟩
                have hF36 := hF5.trans hF6
                have HE := hid (fun h => read_err2 hl HL3.out HB.out h)
                have HN := hid (fun h => (HL3.out.trans (lines_ok HB.out h)))
                clear CA x0 x1 x2 hcast hF6 HL3 HB
                generalize hA : addL R (kn + 1) (tokL t) = AL at HE HN hR6 ⊢
                obtain ⟨ec, R6⟩ := AL
                simp only [] at HE HN hR6 ⊢
                by_cases hec : ec = 0
                · subst hec
                  have hR6' := hR6 rfl
                  have HN2 := hid (HN.out rfl)
                  clear hA hR6 HN HE
                  go_wp2_with fail
                  go_roundg (s.length + 1 - (k + 1))
                  case measure => omega
                  case rel => exact ⟨k + 1, kn + 1, R6, by omega, by omega, by go_num, by go_num, by omega, hF36, hR6', HN2⟩
                · have hz2 : (ec != 0) = true := bne_iff_ne.2 hec
                  have HP := hid (HE.out hec)
                  obtain ⟨qW, hBW⟩ := HFin.out w6 hF36
                  obtain ⟨f0, c0, f1, c1, f2, c2, rr, gg⟩ := put25 qW (.slice none 0 0) (.slice none 0 0) (.int .i64 0)
                  clear hA hR6 HN HE hec
                  go_wp2_with fail
                  refine bodyPost_ret (results_row_tmp2Q (p := 2) (u := 3) (x := 4) (ty := 40) rfl _ _ w.heap.size 40 _ (0, 0) _ rfl rr Tryz.underlying40 rfl (by kernel_rfl)) rfl ?_
                  rw [HP.out]
                  exact ⟨hBW.grown gg hBW.size (fun k e => by cases e; exact Nat.le_refl _), _, rfl, noNet_at _⟩
          · have hkz : ¬ (k : Int) < (s.length : Int) := by omega
            clear hltz hlt
            cases hbl : blankB t with
            | true =>
              rw [hbl] at CB
              have HNx : Hid (linesP tokL rs0 1 (splitNL s) = linesP tokL R (kn + 1 + 1) (splitNL (s.drop (k + 1)))) := hid (by rw [HL3.out, lines_blank hbl])
              have hRn : RdrR wr w3.heap.size (w.heap.size + 1 + 1) (w.heap.size + 1) R (kn + 1 + 1) := hR.more
              clear hbl CP HL3
              go_wp2_with (first | (go_at_call 64; refine CB.mono ?_; rintro e w' ⟨rfl, hw⟩; obtain rfl : wr = w' := hw.symm) | fail)
              go_roundg (s.length + 1 - (k + 1))
              case measure => omega
              case rel => exact ⟨k + 1, kn + 1, R, by omega, by omega, by go_num, by go_num, by omega, hF, hRn, HNx⟩
            | false =>
              rw [hbl] at CB
              have HB := hid hbl
              clear hbl
              go_wp2_with (first | (go_at_call 64; refine CB.mono ?_; rintro e w' ⟨rfl, hw⟩; obtain rfl : wr = w' := hw.symm) | fail)
              clear CB
              refine CP.mono ?_
              rintro e w4 ⟨hB4, word, A, m, c, var, ok, rfl, hM⟩
              obtain ⟨w5, hw5, -, -, hz5, hB5, q5⟩ := new_block w4 #[.string ⟨word.toArray⟩, .slice A m c, .int .i64 var] 113
              have hF5 : Fr2 w3.heap.size (w.heap.size + 1 + 1) (w.heap.size + 1) w3 w5 := hF.trans (Fr2.below ((below_then hB4 hB4.size hB5).mono hws))
              clear CP
              cases ok with
              | false =>
                have hPb : tokL t = .bad := by
                  rcases hM with ⟨_, h⟩ | ⟨h, _⟩
                  · exact h
                  · cases h
                have HP := hid (show readW tokL s = (noNet, kn + 1, 5) by rw [read_err2 hl HL3.out HB.out (by rw [hPb]; exact (show (5 : Int) ≠ 0 by decide)), hPb]; rfl)
                obtain ⟨qW, hBW⟩ := HFin.out w5 hF5
                obtain ⟨f0, c0, f1, c1, f2, c2, rr, gg⟩ := put25 qW (.slice none 0 0) (.slice none 0 0) (.int .i64 0)
                clear hPb hM q5
                go_wp2_with fail
                refine bodyPost_ret (results_row_tmp2Q (p := 2) (u := 3) (x := 4) (ty := 40) rfl _ _ w.heap.size 40 _ (0, 0) _ rfl rr Tryz.underlying40 rfl (by kernel_rfl)) rfl ?_
                rw [HP.out]
                exact ⟨hBW.grown gg hBW.size (fun k e => by cases e; exact Nat.le_refl _), _, rfl, noNet_at _⟩
              | true =>
                have CA := addR_any w3.heap.size (w.heap.size + 1 + 1) (w.heap.size + 1) (kn + 1) R t word A m c var wr w4 w5 hR hB4 hB5 hM htl (by omega)
                have x0 := cell_row q5 (j := 0) (v := .string ⟨word.toArray⟩) rfl
                have x1 := cell_row q5 (j := 1) (v := .slice A m c) rfl
                have x2 := cell_row q5 (j := 2) (v := .int .i64 var) rfl
                have hcast : ((kn + 1 : Nat) : Int) = (kn : Int) + 1 := by omega
                rw [hcast] at CA
                clear hM q5
                go_wp2_with fail
                refine CA.mono ?_
                rintro e w6 ⟨rfl, hF6, hR6⟩
                have hF36 := hF5.trans hF6
                have HE := hid (fun h => read_err2 hl HL3.out HB.out h)
                have HN := hid (fun h => (HL3.out.trans (lines_ok HB.out h)))
                clear CA x0 x1 x2 hcast hF6 HL3 HB
                generalize hA : addL R (kn + 1) (tokL t) = AL at HE HN hR6 ⊢
                obtain ⟨ec, R6⟩ := AL
                simp only [] at HE HN hR6 ⊢
                by_cases hec : ec = 0
                · subst hec
                  have hR6' := hR6 rfl
                  have HN2 := hid (HN.out rfl)
                  clear hA hR6 HN HE
                  go_wp2_with fail
                  go_roundg (s.length + 1 - (k + 1))
                  case measure => omega
                  case rel => exact ⟨k + 1, kn + 1, R6, by omega, by omega, by go_num, by go_num, by omega, hF36, hR6', HN2⟩
                · have hz2 : (ec != 0) = true := bne_iff_ne.2 hec
                  have HP := hid (HE.out hec)
                  obtain ⟨qW, hBW⟩ := HFin.out w6 hF36
                  obtain ⟨f0, c0, f1, c1, f2, c2, rr, gg⟩ := put25 qW (.slice none 0 0) (.slice none 0 0) (.int .i64 0)
                  clear hA hR6 HN HE hec
                  go_wp2_with fail
                  refine bodyPost_ret (results_row_tmp2Q (p := 2) (u := 3) (x := 4) (ty := 40) rfl _ _ w.heap.size 40 _ (0, 0) _ rfl rr Tryz.underlying40 rfl (by kernel_rfl)) rfl ?_
                  rw [HP.out]
                  exact ⟨hBW.grown gg hBW.size (fun k e => by cases e; exact Nat.le_refl _), _, rfl, noNet_at _⟩
    · rename World => wa
      have hltz : ¬ (i : Int) < (s.length : Int) := by omega
      have hnil : splitNL (s.drop i) = [] := by rw [List.drop_eq_nil_of_le (by omega)]; rfl
      have HLE : linesP tokL rs0 1 (splitNL s) = linesP tokL R (kn + 1) [] := by rw [← hnil]; exact HL.out
      obtain ⟨hlit, hgl, hne⟩ := rok_end (lines_end HLE)
      have hread := read_end2 hl HLE
      have hok := hR.ok
      obtain ⟨pv, gv, av, hA, hph⟩ := hR.mem
      have c6 := cell_row hA.row (j := 6) (v := .int .i64 (stg R)) rfl
      clear hnil HLE HL
      cases hd : R.done with
      | false =>
        have hst : (stg R != 2) = true := by unfold stg; rw [if_neg (by rw [hd]; simp)]; split <;> decide
        have HP := hid (hread.trans (endR_undone hd))
        generalize stg R = sg at c6 hst
        obtain ⟨qW, hBW⟩ := HFin.out wa hF
        obtain ⟨f0, c0, f1, c1, f2, c2, rr, gg⟩ := put25 qW (.slice none 0 0) (.slice none 0 0) (.int .i64 0)
        clear hread hd hph hA hok hlit hgl hne hR
        go_wp2_with fail
        refine bodyPost_ret (results_row_tmp2Q (p := 2) (u := 3) (x := 4) (ty := 40) rfl _ _ w.heap.size 40 _ (0, 0) _ rfl rr Tryz.underlying40 rfl (by kernel_rfl)) rfl ?_
        rw [HP.out]
        exact ⟨hBW.grown gg hBW.size (fun k e => by cases e; exact Nat.le_refl _), _, rfl, noNet_at _⟩
      | true =>
        have hst : stg R = 2 := by unfold stg; rw [if_pos hd]
        rw [hst] at c6
        rcases hph with ⟨h0, _⟩ | ⟨-, n1, hn1, hn1s, hPre, hGA⟩
        · rw [hd] at h0; cases h0
        obtain ⟨ga, ca, eav, hga1, hga2, hga3⟩ := own_form hGA.ats (by simp)
        have hav : av = .slice (some ⟨ga, 0, none⟩) (R.at_.length + 1) ca := eav
        subst hav
        have hGat := gates_of_stay hGA.stay
        obtain ⟨Ag, cg, rfl, hlg, hcg⟩ := hGat.form
        have hal := hok.al
        have hnz : n1 ≤ wa.heap.size := hn1s
        have hgar : ga ≠ w.heap.size + 1 + 1 := by omega
        have c7 := cell_row hA.row (j := 7) (v := .slice (some ⟨ga, 0, none⟩) (R.at_.length + 1) ca) rfl
        have c3 := cell_row hA.row (j := 3) (v := .slice (some ⟨w.heap.size + 1, 0, none⟩) 65537 65537) rfl
        have c2 := cell_row hA.row (j := 2) (v := .int .i64 R.out) rfl
        have cA : ∀ (j : Nat) (x : Nat), (R.outAt :: R.at_)[j]? = some x → wa.cell? ⟨ga, j, none⟩ = some (.int .i64 (x : Int)) := fun j x hj => by
          have hj1 := (List.getElem?_eq_some_iff.1 hj).1
          have h := hGA.ats.cellAt j (by simpa using hj1)
          rw [h]
          unfold nums natI
          rw [List.getElem?_map, List.getElem?_map, hj]; rfl
        have ho64 : I64 R.out := by have := hok.out; unfold I64; omega
        have CA := fun p => (absR_any R.out (since wa p) ho64).mono (fun e w' (h : e = _ ∧ w' = _) => (⟨h.1, by rw [h.2]; exact Below.refl _ _⟩ : e = _ ∧ Below (since wa p).heap.size (since wa p) w'))
        rw [absR_nat hok.out, ← absN_nat hok.out] at CA
        have hm := absN_lt R.out
        have l1 := fun p => cell_since c3 p
        have l2 := fun p => cell_since c2 p
        have l3 := fun p => (hA.seen.below (since_below wa p)).cell (absN R.out) hm
        have HRD := hid hread
        have HST := hid hst
        have HD := hid hd
        have HOK := hid hok
        have HEQ := hid (fun (h : R.seen (absN R.out) = false) => hread.trans (endR_out hd h))
        have HEO := hid (fun (h : R.seen (absN R.out) = true) n (h3 : strayP R.seen R.gates R.at_ = some n) => hread.trans (endR_stray hd h h3))
        have HEN := hid (fun (h : R.seen (absN R.out) = true) (h3 : strayP R.seen R.gates R.at_ = none) => hread.trans (endR_order hd h h3))
        have HPre := hid hPre
        have HCA := hid cA
        clear hread hst hd hok hPre ho64 cA c2 c3
        generalize absN R.out = mo at *
        go_wp2_with fail
        refine region_quiet (by kernel_rfl) (by kernel_rfl) ?_
        repeat (first | go_big_quiet_step ((go_at_call 54; exact calls_since (CA _))) | quiet_step ((go_at_call 54; exact calls_since (CA _))))
        refine wpQuiet_nil ?_
        rintro W ⟨pw, hW⟩
        have hBW1 : Below wa.heap.size wa W := by rw [hW]; exact since_below wa pw
        have hFW : Fr2 w3.heap.size (w.heap.size + 1 + 1) (w.heap.size + 1) w3 W := hF.trans (Fr2.below (hBW1.mono hws))
        clear hW l1 l2 l3 CA c6
        cases hso : R.seen mo with
        | false =>
          have HP := hid (HEQ.out hso)
          have k7 := keeps_below hBW1 _ _ c7
          have kga := keeps_below hBW1 _ _ (HCA.out 0 R.outAt rfl)
          clear hso HEQ HEO HEN c7
          have hSd : (fun W' => W'.cell? ⟨w.heap.size + 1 + 1, 7, none⟩ = some (.slice (some ⟨ga, 0, none⟩) (R.at_.length + 1) ca) ∧ W'.cell? ⟨ga, 0, none⟩ = some (.int .i64 (R.outAt : Int))) W.drew := ⟨k7, kga⟩
          have hFd : Fr2 w3.heap.size (w.heap.size + 1 + 1) (w.heap.size + 1) w3 W.drew := hFW.trans (Fr2.below (below_drewN (Below.refl _ _) 1))
          clear k7 kga
          go_wp2_with fail
          refine wp_region_held_drew (S := (fun W' => W'.cell? ⟨w.heap.size + 1 + 1, 7, none⟩ = some (.slice (some ⟨ga, 0, none⟩) (R.at_.length + 1) ca) ∧ W'.cell? ⟨ga, 0, none⟩ = some (.int .i64 (R.outAt : Int)))) (by kernel_rfl) hSd (fun hHeld => ?_)
          generalize W.drew = wq at *
          obtain ⟨qW, hBW⟩ := HFin.out wq hFd
          obtain ⟨f0, c0, f1, c1, f2, c2, rr, gg⟩ := put25 qW (.slice none 0 0) (.slice none 0 0) (.int .i64 0)
          have hSg := And.intro (gg.cell hSd.1 (by intro e; injection e with e; have e' : w.heap.size + 1 + 1 = w.heap.size := e; omega)) (gg.cell hSd.2 (by intro e; injection e with e; have e' : ga = w.heap.size := e; omega))
          clear hSd
          refine wpAnyH_take (i := 0) (v := ?vn1) rfl (by kernel_rfl) (by kernel_rfl) (by kernel_rfl) (fun _ _ _ h => h) (Or.inl ⟨by rfl, ?yn1⟩) hHeld ?_
          case yn1 => (intro w' hSw; (try dsimp only at hSw); go_simp); (try with_reducible rfl)
          try simp only [Act.put, List.setIfInBounds_toArray, List.set_cons_zero, List.set_cons_succ]
          refine wpAnyH_take (i := 1) (v := ?vn2) rfl (by kernel_rfl) (by kernel_rfl) (by kernel_rfl) (fun _ _ _ h => h) (Or.inl ⟨by rfl, ?yn2⟩) hHeld ?_
          case yn2 => (intro w' hSw; (try dsimp only at hSw); go_simp); (try with_reducible rfl)
          try simp only [Act.put, List.setIfInBounds_toArray, List.set_cons_zero, List.set_cons_succ]
          refine wpAnyH_take (i := 2) (v := ?vn3) rfl (by kernel_rfl) (by kernel_rfl) (by kernel_rfl) (fun _ _ _ h => h) (Or.inl ⟨by rfl, ?yn3⟩) hHeld ?_
          case yn3 => (intro w' hSw; (try dsimp only at hSw); go_simp); (try with_reducible rfl)
          try simp only [Act.put, List.setIfInBounds_toArray, List.set_cons_zero, List.set_cons_succ]
          refine wpAnyH_take (i := 3) (v := ?vn4) rfl (by kernel_rfl) (by kernel_rfl) (by kernel_rfl) (fun _ _ _ h => h) (Or.inl ⟨by rfl, ?yn4⟩) hHeld ?_
          case yn4 => (intro w' hSw; (try dsimp only at hSw); go_simp); (try with_reducible rfl)
          try simp only [Act.put, List.setIfInBounds_toArray, List.set_cons_zero, List.set_cons_succ]
          refine wpAnyH_take (i := 4) (v := ?vn5) rfl (by kernel_rfl) (by kernel_rfl) (by kernel_rfl) (fun _ _ _ h => h) (Or.inl ⟨by rfl, ?yn5⟩) hHeld ?_
          case yn5 => (intro w' hSw; (try dsimp only at hSw); go_simp); (try with_reducible rfl)
          try simp only [Act.put, List.setIfInBounds_toArray, List.set_cons_zero, List.set_cons_succ]
          refine wpAnyH_take (i := 5) (v := ?vn6) rfl (by kernel_rfl) (by kernel_rfl) (by kernel_rfl) (fun _ _ _ h => h) (Or.inl ⟨by rfl, ?yn6⟩) hHeld ?_
          case yn6 => (intro w' hSw; (try dsimp only at hSw); go_simp); (try with_reducible rfl)
          try simp only [Act.put, List.setIfInBounds_toArray, List.set_cons_zero, List.set_cons_succ]
          refine wpAnyH_take (i := 6) (v := ?vn7) rfl (by kernel_rfl) (by kernel_rfl) (by kernel_rfl) (fun _ _ _ h => h) (Or.inl ⟨by rfl, ?yn7⟩) hHeld ?_
          case yn7 => (intro w' hSw; (try dsimp only at hSw); go_simp); (try with_reducible rfl)
          try simp only [Act.put, List.setIfInBounds_toArray, List.set_cons_zero, List.set_cons_succ]
          refine wpAnyH_ready (rs := [7]) (by kernel_rfl) (by simp) ?_
          refine AllReadyH.cons rfl (fun Kc hKc => ?_) AllReadyH.nil
          go_simp
          refine hKc.out _ _ hSg (fun hHeld => ?_)
          clear hKc Kc
          try simp only [Act.put, List.setIfInBounds_toArray, List.set_cons_zero, List.set_cons_succ]
          refine wpAnyH_take (i := 8) (v := ?vn8) rfl (by kernel_rfl) (by kernel_rfl) (by kernel_rfl) (fun _ _ _ h => h) (Or.inl ⟨by rfl, ?yn8⟩) hHeld ?_
          case yn8 => (intro w' hSw; (try dsimp only at hSw); go_simp); (try with_reducible rfl)
          try simp only [Act.put, List.setIfInBounds_toArray, List.set_cons_zero, List.set_cons_succ]
          refine wpAnyH_take (i := 9) (v := ?vn9) rfl (by kernel_rfl) (by kernel_rfl) (by kernel_rfl) (fun _ _ _ h => h) (Or.inl ⟨by rfl, ?yn9⟩) hHeld ?_
          case yn9 => (intro w' hSw; (try dsimp only at hSw); go_simp); (try with_reducible rfl)
          try simp only [Act.put, List.setIfInBounds_toArray, List.set_cons_zero, List.set_cons_succ]
          try simp only [Act.put, List.getElem_toArray, List.getElem_cons_succ, List.getElem_cons_zero, List.setIfInBounds_toArray, List.set_cons_zero, List.set_cons_succ]
          try simp only [Act.put, List.setIfInBounds_toArray, List.set_cons_zero, List.set_cons_succ]
          refine wpAnyH_done (by kernel_rfl) ?_ _
          go_wp2_with fail
          refine bodyPost_ret (results_row_tmp2Q (p := 2) (u := 3) (x := 4) (ty := 40) rfl _ _ w.heap.size 40 _ (0, 0) _ rfl rr Tryz.underlying40 rfl (by kernel_rfl)) rfl ?_
          rw [HP.out]
          exact ⟨hBW.grown gg hBW.size (fun k e => by cases e; exact Nat.le_refl _), _, rfl, noNet_at _⟩
        | true =>
          have HEO2 := hid (HEO.out hso)
          have HEN2 := hid (HEN.out hso)
          clear hso HEQ HEO HEN c7
          go_wp2_with fail
          go_loopg [12, 13] R.gates.length (fun gg s12 _ wl => ∃ j : Nat, j ≤ R.gates.length ∧ R.gates.length - j ≤ gg ∧ s12 = .int .i64 (j : Int) ∧ Below wa.heap.size wa wl ∧ Hid (strayP R.seen R.gates R.at_ = strayP R.seen (R.gates.drop j) (R.at_.drop j)))
          case atStart => exact ⟨0, by omega, by omega, rfl, hBW1, hid rfl⟩
          case round =>
            clear hFW hBW1
            rename World => wl
            obtain ⟨j, hj, hgj, rfl, hBl, HS⟩ := hrel
            have hAl := hA.below hBl
            have k1 := cell_row hAl.row (j := 1) (v := .slice Ag R.gates.length cg) rfl
            have hszl := hBl.size
            by_cases hjl : j < R.gates.length
            · have hjz : (j : Int) < (R.gates.length : Int) := by omega
              obtain ⟨g, hgx, hgm, -⟩ := nth hjl
              obtain ⟨na, hna, -, -⟩ := nth (show j < R.at_.length by omega)
              obtain ⟨bg, offg, vi, eA, q0, q1, q2, hi, -⟩ := (hGat.keep (keeps_below hBl)).at_ j g hgx
              obtain ⟨Ai, ci, rfl, hli, hci⟩ := hi.form
              have HA1 := hid (stray_at2 (S := R.seen) hgx hna)
              have HINS := hid (HOK.out.gs g hgm).2.2
              have HC1 := hid (HCA.out (j + 1) na (by simpa using hna))
              rw [eA] at k1
              clear hgx hgm hna q0 q1
              go_wp2_with fail
              clear k1
              go_loopg [13] g.ins.length (fun gg s13 w5 => ∃ k : Nat, k ≤ g.ins.length ∧ g.ins.length - k ≤ gg ∧ s13 = .int .i64 (k : Int) ∧ Below wl.heap.size wl w5 ∧ Hid ((g.ins.any fun l => !R.seen (absN l)) = ((g.ins.drop k).any fun l => !R.seen (absN l))))
              case atStart => exact ⟨0, by omega, by omega, rfl, Below.refl _ _, hid rfl⟩
              case round =>
                rename World => w5
                obtain ⟨k, hk, hgk, rfl, hB5, HY⟩ := hrel
                have hBl5 := below_then hBl hBl.size hB5
                have hA5 := hA.below hBl5
                have k1 := cell_row hA5.row (j := 1) (v := .slice Ag R.gates.length cg) rfl
                rw [eA] at k1
                have q25 := keeps_below hB5 _ _ q2
                by_cases hkl : k < g.ins.length
                · have hkz : (k : Int) < (g.ins.length : Int) := by omega
                  obtain ⟨y, hy, hym, -⟩ := nth hkl
                  obtain ⟨b2, o2, eB, hcy, hy64⟩ := hi.at_ k y hy
                  subst eB
                  have hcy5 := keeps_below hB5 _ _ hcy
                  have hyr := HINS.out y hym
                  have CA := fun p => (absR_any y (since w5 p) hy64).mono (fun e w' (h : e = _ ∧ w' = _) => (⟨h.1, by rw [h.2]; exact Below.refl _ _⟩ : e = _ ∧ Below (since w5 p).heap.size (since w5 p) w'))
                  rw [absR_nat hyr, ← absN_nat hyr] at CA
                  have hm2 := absN_lt y
                  have l1 := fun p => cell_since (cell_row hA5.row (j := 3) (v := .slice (some ⟨w.heap.size + 1, 0, none⟩) 65537 65537) rfl) p
                  have l2 := fun p => cell_since k1 p
                  have l3 := fun p => (hA5.seen.below (since_below w5 p)).cell (absN y) hm2
                  have l4 := fun p => cell_since q25 p
                  have l5 := fun p => cell_since hcy5 p
                  have HD2 := hid (any_drop (fun l => !R.seen (absN l)) hy)
                  have HE1 : Hid (((g.ins.drop k).any fun l => !R.seen (absN l)) = (!R.seen (absN y) || (g.ins.drop (k + 1)).any fun l => !R.seen (absN l))) := hid HD2.out
                  clear hy hym hy64 hyr hcy hcy5 HD2
                  generalize absN y = my at *
                  go_wp2_with fail
                  refine region_quiet (by kernel_rfl) (by kernel_rfl) ?_
                  repeat (first | go_big_quiet_step ((go_at_call 54; exact calls_since (CA _))) | quiet_step ((go_at_call 54; exact calls_since (CA _))))
                  refine wpQuiet_nil ?_
                  rintro W5 ⟨pw, hW⟩
                  have hBW5 : Below w5.heap.size w5 W5 := by rw [hW]; exact since_below w5 pw
                  clear hW l1 l2 l3 l4 l5 CA k1 q25
                  cases hsy : R.seen my with
                  | true =>
                    have HN : Hid ((g.ins.any fun l => !R.seen (absN l)) = ((g.ins.drop (k + 1)).any fun l => !R.seen (absN l))) := hid (by rw [HY.out, HE1.out, hsy]; rfl)
                    clear hsy
                    go_wp2_with fail
                    go_roundg (g.ins.length - (k + 1))
                    case measure => omega
                    case rel => exact ⟨k + 1, by omega, by omega, by go_num, below_then hB5 hB5.size hBW5, HN⟩
                  | false =>
                    have HP := hid (HEO2.out na (by rw [HS.out, HA1.out, if_pos (by rw [HY.out, HE1.out, hsy]; rfl)]))
                    have hBl5W := below_then hBl5 hBl5.size hBW5
                    have hFW5 : Fr2 w3.heap.size (w.heap.size + 1 + 1) (w.heap.size + 1) w3 W5 := hF.trans (Fr2.below (hBl5W.mono hws))
                    have k7 := cell_row (hA.below hBl5W).row (j := 7) (v := .slice (some ⟨ga, 0, none⟩) (R.at_.length + 1) ca) rfl
                    have kga := keeps_below hBl5W _ _ HC1.out
                    have hwj : IntKind.i64.wrap ((j : Int) + 1) = (j : Int) + 1 := IntWalk.i64_in _ (by omega)
                    have hj0 : (0 : Int) ≤ (j : Int) + 1 := by omega
                    have hj1 : (j : Int) + 1 < (R.gates.length : Int) + 1 := by omega
                    have hjt : ((j : Int) + 1).toNat = j + 1 := by omega
                    clear hsy
                    have hSd : (fun W' => W'.cell? ⟨w.heap.size + 1 + 1, 7, none⟩ = some (.slice (some ⟨ga, 0, none⟩) (R.at_.length + 1) ca) ∧ W'.cell? ⟨ga, j + 1, none⟩ = some (.int .i64 (na : Int))) W5.drew := ⟨k7, kga⟩
                    have hFd : Fr2 w3.heap.size (w.heap.size + 1 + 1) (w.heap.size + 1) w3 W5.drew := hFW5.trans (Fr2.below (below_drewN (Below.refl _ _) 1))
                    clear k7 kga
                    go_wp2_with fail
                    refine wp_region_held_drew (S := (fun W' => W'.cell? ⟨w.heap.size + 1 + 1, 7, none⟩ = some (.slice (some ⟨ga, 0, none⟩) (R.at_.length + 1) ca) ∧ W'.cell? ⟨ga, j + 1, none⟩ = some (.int .i64 (na : Int)))) (by kernel_rfl) hSd (fun hHeld => ?_)
                    generalize W5.drew = wq at *
                    obtain ⟨qW, hBW⟩ := HFin.out wq hFd
                    obtain ⟨f0, c0, f1, c1, f2, c2, rr, gg⟩ := put25 qW (.slice none 0 0) (.slice none 0 0) (.int .i64 0)
                    have hSg := And.intro (gg.cell hSd.1 (by intro e; injection e with e; have e' : w.heap.size + 1 + 1 = w.heap.size := e; omega)) (gg.cell hSd.2 (by intro e; injection e with e; have e' : ga = w.heap.size := e; omega))
                    clear hSd
                    refine wpAnyH_take (i := 0) (v := ?vn10) rfl (by kernel_rfl) (by kernel_rfl) (by kernel_rfl) (fun _ _ _ h => h) (Or.inl ⟨by rfl, ?yn10⟩) hHeld ?_
                    case yn10 => (intro w' hSw; (try dsimp only at hSw); go_simp); (try with_reducible rfl)
                    try simp only [Act.put, List.setIfInBounds_toArray, List.set_cons_zero, List.set_cons_succ]
                    refine wpAnyH_take (i := 1) (v := ?vn11) rfl (by kernel_rfl) (by kernel_rfl) (by kernel_rfl) (fun _ _ _ h => h) (Or.inl ⟨by rfl, ?yn11⟩) hHeld ?_
                    case yn11 => (intro w' hSw; (try dsimp only at hSw); go_simp); (try with_reducible rfl)
                    try simp only [Act.put, List.setIfInBounds_toArray, List.set_cons_zero, List.set_cons_succ]
                    refine wpAnyH_take (i := 2) (v := ?vn12) rfl (by kernel_rfl) (by kernel_rfl) (by kernel_rfl) (fun _ _ _ h => h) (Or.inl ⟨by rfl, ?yn12⟩) hHeld ?_
                    case yn12 => (intro w' hSw; (try dsimp only at hSw); go_simp); (try with_reducible rfl)
                    try simp only [Act.put, List.setIfInBounds_toArray, List.set_cons_zero, List.set_cons_succ]
                    refine wpAnyH_take (i := 3) (v := ?vn13) rfl (by kernel_rfl) (by kernel_rfl) (by kernel_rfl) (fun _ _ _ h => h) (Or.inl ⟨by rfl, ?yn13⟩) hHeld ?_
                    case yn13 => (intro w' hSw; (try dsimp only at hSw); go_simp); (try with_reducible rfl)
                    try simp only [Act.put, List.setIfInBounds_toArray, List.set_cons_zero, List.set_cons_succ]
                    refine wpAnyH_take (i := 4) (v := ?vn14) rfl (by kernel_rfl) (by kernel_rfl) (by kernel_rfl) (fun _ _ _ h => h) (Or.inl ⟨by rfl, ?yn14⟩) hHeld ?_
                    case yn14 => (intro w' hSw; (try dsimp only at hSw); go_simp); (try with_reducible rfl)
                    try simp only [Act.put, List.setIfInBounds_toArray, List.set_cons_zero, List.set_cons_succ]
                    refine wpAnyH_take (i := 5) (v := ?vn15) rfl (by kernel_rfl) (by kernel_rfl) (by kernel_rfl) (fun _ _ _ h => h) (Or.inl ⟨by rfl, ?yn15⟩) hHeld ?_
                    case yn15 => (intro w' hSw; (try dsimp only at hSw); go_simp); (try with_reducible rfl)
                    try simp only [Act.put, List.setIfInBounds_toArray, List.set_cons_zero, List.set_cons_succ]
                    refine wpAnyH_take (i := 6) (v := ?vn16) rfl (by kernel_rfl) (by kernel_rfl) (by kernel_rfl) (fun _ _ _ h => h) (Or.inl ⟨by rfl, ?yn16⟩) hHeld ?_
                    case yn16 => (intro w' hSw; (try dsimp only at hSw); go_simp); (try with_reducible rfl)
                    try simp only [Act.put, List.setIfInBounds_toArray, List.set_cons_zero, List.set_cons_succ]
                    refine wpAnyH_take (i := 7) (v := ?vn17) rfl (by kernel_rfl) (by kernel_rfl) (by kernel_rfl) (fun _ _ _ h => h) (Or.inl ⟨by rfl, ?yn17⟩) hHeld ?_
                    case yn17 => (intro w' hSw; (try dsimp only at hSw); go_simp); (try with_reducible rfl)
                    try simp only [Act.put, List.setIfInBounds_toArray, List.set_cons_zero, List.set_cons_succ]
                    refine wpAnyH_take (i := 8) (v := ?vn18) rfl (by kernel_rfl) (by kernel_rfl) (by kernel_rfl) (fun _ _ _ h => h) (Or.inl ⟨by rfl, ?yn18⟩) hHeld ?_
                    case yn18 => (intro w' hSw; (try dsimp only at hSw); go_simp); (try with_reducible rfl)
                    try simp only [Act.put, List.setIfInBounds_toArray, List.set_cons_zero, List.set_cons_succ]
                    refine wpAnyH_ready (rs := [9]) (by kernel_rfl) (by simp) ?_
                    refine AllReadyH.cons rfl (fun Kc hKc => ?_) AllReadyH.nil
                    go_simp
                    refine hKc.out _ _ hSg (fun hHeld => ?_)
                    clear hKc Kc
                    try simp only [Act.put, List.setIfInBounds_toArray, List.set_cons_zero, List.set_cons_succ]
                    refine wpAnyH_take (i := 10) (v := ?vn19) rfl (by kernel_rfl) (by kernel_rfl) (by kernel_rfl) (fun _ _ _ h => h) (Or.inl ⟨by rfl, ?yn19⟩) hHeld ?_
                    case yn19 => (intro w' hSw; (try dsimp only at hSw); go_simp); (try with_reducible rfl)
                    try simp only [Act.put, List.setIfInBounds_toArray, List.set_cons_zero, List.set_cons_succ]
                    refine wpAnyH_take (i := 11) (v := ?vn20) rfl (by kernel_rfl) (by kernel_rfl) (by kernel_rfl) (fun _ _ _ h => h) (Or.inl ⟨by rfl, ?yn20⟩) hHeld ?_
                    case yn20 => (intro w' hSw; (try dsimp only at hSw); go_simp); (try with_reducible rfl)
                    try simp only [Act.put, List.setIfInBounds_toArray, List.set_cons_zero, List.set_cons_succ]
                    try simp only [Act.put, List.getElem_toArray, List.getElem_cons_succ, List.getElem_cons_zero, List.setIfInBounds_toArray, List.set_cons_zero, List.set_cons_succ]
                    try simp only [Act.put, List.setIfInBounds_toArray, List.set_cons_zero, List.set_cons_succ]
                    refine wpAnyH_done (by kernel_rfl) ?_ _
                    go_wp2_with fail
                    refine bodyPost_ret (results_row_tmp2Q (p := 2) (u := 3) (x := 4) (ty := 40) rfl _ _ w.heap.size 40 _ (0, 0) _ rfl rr Tryz.underlying40 rfl (by kernel_rfl)) rfl ?_
                    rw [HP.out]
                    exact ⟨hBW.grown gg hBW.size (fun k e => by cases e; exact Nat.le_refl _), _, rfl, noNet_at _⟩
                · have hkz : ¬ (k : Int) < (g.ins.length : Int) := by omega
                  have HN : Hid (strayP R.seen R.gates R.at_ = strayP R.seen (R.gates.drop (j + 1)) (R.at_.drop (j + 1))) := hid (by
                    rw [HS.out, HA1.out, if_neg (by rw [HY.out, List.drop_eq_nil_of_le (by omega)]; simp)])
                  go_wp2_with fail
                  go_roundg (R.gates.length - (j + 1))
                  case measure => omega
                  case rel => exact ⟨j + 1, by omega, by omega, by go_num, hBl5, HN⟩
            · have hjz : ¬ (j : Int) < (R.gates.length : Int) := by omega
              have hnone : strayP R.seen R.gates R.at_ = none := by rw [HS.out, List.drop_eq_nil_of_le (by omega)]; exact stray_end _ _
              have HEN3 := hid (HEN2.out hnone)
              clear HS hnone HEO2 HEN2
              have hok := HOK.out
              have hI64 : ∀ x ∈ R.pre, ∀ y ∈ x.vars, I64 y := fun x hx y hy => by have := hok.pre x hx y hy; unfold I64; omega
              have hOut : OutAt wa w3.heap.size pv R.pre := HPre.out.out hn1s
              obtain ⟨Ap, cp, rfl, hpl9⟩ := hOut.form
              have hvl : (varsOf R.pre).length ≤ 1024 := by have h1 := hok.nv; have h2 := hok.vars; omega
              have hv64 : ∀ y ∈ varsOf R.pre, I64 y := fun y hy => by
                unfold varsOf at hy
                obtain ⟨x, hx, hy⟩ := List.mem_flatMap.1 hy
                exact hI64 x hx y hy
              have CV := fun W (hW : Below wa.heap.size wa W) => Vars_any (.slice Ap R.pre.length cp) R.pre W (blocks_of_out (hOut.below hW) hI64) hne (by omega)
              have CO := fun vv W (hW : Below wa.heap.size wa W) (hI : IntsAt W vv (varsOf R.pre)) => OrderR_K vv (.slice Ag R.gates.length cg) (varsOf R.pre) R.gates W (keepOnly (fun k => decide (w3.heap.size ≤ k)) wa) hI (snap_gates hGA hn1) (snap_keeps (fun k _ hk => hW.block k hk)) hlit hgl
              have HNQ := hid (And.intro hok.out hI64)
              generalize hrp : orderP (varsOf R.pre) R.gates = rp at CO HEN3
              obtain ⟨o, ec⟩ := rp
              have HV64 := hid hv64
              have hSK : Hid (∀ W, Below wa.heap.size wa W → (fun W' => W'.cell? ⟨w.heap.size + 1 + 1, 0, none⟩ = some (.slice Ap R.pre.length cp) ∧ W'.cell? ⟨w.heap.size + 1 + 1, 1, none⟩ = some (.slice Ag R.gates.length cg)) W) := hid (fun W hW => ⟨cell_row (hA.below hW).row rfl, cell_row (hA.below hW).row rfl⟩)
              clear hok hv64 hI64 hrp hAl
              go_wp2_with fail
              clear k1
              have hBq := hBl.drew
              refine wp_region_held_drew (S := (fun W' => W'.cell? ⟨w.heap.size + 1 + 1, 0, none⟩ = some (.slice Ap R.pre.length cp) ∧ W'.cell? ⟨w.heap.size + 1 + 1, 1, none⟩ = some (.slice Ag R.gates.length cg))) (by kernel_rfl) (hSK.out _ hBq) (fun hHeld => ?_)
              generalize wl.drew = wq at *
              refine wpAnyH_take (i := 0) (v := ?vn21) rfl (by kernel_rfl) (by kernel_rfl) (by kernel_rfl) (fun _ _ _ h => h) (Or.inl ⟨by rfl, ?yn21⟩) hHeld ?_
              case yn21 => (intro w' hSw; (try dsimp only at hSw); go_simp); (try with_reducible rfl)
              try simp only [Act.put, List.setIfInBounds_toArray, List.set_cons_zero, List.set_cons_succ]
              refine wpAnyH_take (i := 1) (v := ?vn22) rfl (by kernel_rfl) (by kernel_rfl) (by kernel_rfl) (fun _ _ _ h => h) (Or.inl ⟨by rfl, ?yn22⟩) hHeld ?_
              case yn22 => (intro w' hSw; (try dsimp only at hSw); go_simp); (try with_reducible rfl)
              try simp only [Act.put, List.setIfInBounds_toArray, List.set_cons_zero, List.set_cons_succ]
              refine wpAnyH_take (i := 2) (v := ?vn23) rfl (by kernel_rfl) (by kernel_rfl) (by kernel_rfl) (fun _ _ _ h => h) (Or.inl ⟨by rfl, ?yn23⟩) hHeld ?_
              case yn23 => (intro w' hSw; (try dsimp only at hSw); go_simp); (try with_reducible rfl)
              try simp only [Act.put, List.setIfInBounds_toArray, List.set_cons_zero, List.set_cons_succ]
              refine wpAnyH_take (i := 3) (v := ?vn24) rfl (by kernel_rfl) (by kernel_rfl) (by kernel_rfl) (fun _ _ _ h => h) (Or.inl ⟨by rfl, ?yn24⟩) hHeld ?_
              case yn24 => (intro w' hSw; (try dsimp only at hSw); go_simp); (try with_reducible rfl)
              try simp only [Act.put, List.setIfInBounds_toArray, List.set_cons_zero, List.set_cons_succ]
              refine wpAnyH_take (i := 4) (v := ?vn25) rfl (by kernel_rfl) (by kernel_rfl) (by kernel_rfl) (fun _ _ _ h => h) (Or.inl ⟨by rfl, ?yn25⟩) hHeld ?_
              case yn25 => (intro w' hSw; (try dsimp only at hSw); go_simp); (try with_reducible rfl)
              try simp only [Act.put, List.setIfInBounds_toArray, List.set_cons_zero, List.set_cons_succ]
              refine wpAnyH_take (i := 6) (v := ?vn26) rfl (by kernel_rfl) (by kernel_rfl) (by kernel_rfl) (fun _ _ _ h => h) (Or.inl ⟨by rfl, ?yn26⟩) hHeld ?_
              case yn26 => (intro w' hSw; (try dsimp only at hSw); go_simp); (try with_reducible rfl)
              try simp only [Act.put, List.setIfInBounds_toArray, List.set_cons_zero, List.set_cons_succ]
              refine wpAnyH_take (i := 7) (v := ?vn27) rfl (by kernel_rfl) (by kernel_rfl) (by kernel_rfl) (fun _ _ _ h => h) (Or.inl ⟨by rfl, ?yn27⟩) hHeld ?_
              case yn27 => (intro w' hSw; (try dsimp only at hSw); go_simp); (try with_reducible rfl)
              try simp only [Act.put, List.setIfInBounds_toArray, List.set_cons_zero, List.set_cons_succ]
              refine wpAnyH_take (i := 8) (v := ?vn28) rfl (by kernel_rfl) (by kernel_rfl) (by kernel_rfl) (fun _ _ _ h => h) (Or.inl ⟨by rfl, ?yn28⟩) hHeld ?_
              case yn28 => (intro w' hSw; (try dsimp only at hSw); go_simp); (try with_reducible rfl)
              try simp only [Act.put, List.setIfInBounds_toArray, List.set_cons_zero, List.set_cons_succ]
              refine wpAnyH_take (i := 9) (v := ?vn29) rfl (by kernel_rfl) (by kernel_rfl) (by kernel_rfl) (fun _ _ _ h => h) (Or.inl ⟨by rfl, ?yn29⟩) hHeld ?_
              case yn29 => (intro w' hSw; (try dsimp only at hSw); go_simp); (try with_reducible rfl)
              try simp only [Act.put, List.setIfInBounds_toArray, List.set_cons_zero, List.set_cons_succ]
              refine wpAnyH_ready (rs := [5, 10]) (by kernel_rfl) (by simp) ?_
              refine AllReadyH.cons rfl (fun Kc hKc => ?_) (AllReadyH.cons rfl (fun Kc hKc => ?_) AllReadyH.nil)
              · skip
                go_simp
                go_at_call 50
                refine (CV wq hBq).mono ?_
                rintro e wv ⟨vv, rfl, hOv, hBv⟩
                have hBqv := below_then hBq hBq.size hBv
                go_wp2_with fail
                refine hKc.out _ _ (hSK.out _ hBqv) (fun hHeld => ?_)
                clear hKc Kc
                try simp only [Act.put, List.setIfInBounds_toArray, List.set_cons_zero, List.set_cons_succ]
                refine wpAnyH_take (i := 10) (v := ?vn30) rfl (by kernel_rfl) (by kernel_rfl) (by kernel_rfl) (fun _ _ _ h => h) (Or.inl ⟨by rfl, ?yn30⟩) hHeld ?_
                case yn30 => (intro w' hSw; (try dsimp only at hSw); go_simp); (try with_reducible rfl)
                try simp only [Act.put, List.setIfInBounds_toArray, List.set_cons_zero, List.set_cons_succ]
                refine wpAnyH_ready (rs := [11]) (by kernel_rfl) (by simp) ?_
                refine AllReadyH.cons rfl (fun Kc hKc => ?_) AllReadyH.nil
                go_simp
                go_at_call 67
                refine (CO vv wv hBqv (ints_of_own hOv HV64.out (by omega))).mono ?_
                rintro e wo ⟨hBo, vg, rfl, hRG⟩
                have hBqo := below_then hBqv hBqv.size hBo
                obtain ⟨Av, cv, rfl, hlv, hcv⟩ := hRG.len
                go_wp2_with fail
                refine hKc.out _ _ (hSK.out _ hBqo) (fun hHeld => ?_)
                clear hKc Kc
                try simp only [Act.put, List.setIfInBounds_toArray, List.set_cons_zero, List.set_cons_succ]
                refine wpAnyH_take (i := 12) (v := ?vn31) rfl (by kernel_rfl) (by kernel_rfl) (by kernel_rfl) (fun _ _ _ h => h) (Or.inl ⟨by rfl, ?yn31⟩) hHeld ?_
                case yn31 => (intro w' hSw; (try dsimp only at hSw); go_simp); (try with_reducible rfl)
                try simp only [Act.put, List.setIfInBounds_toArray, List.set_cons_zero, List.set_cons_succ]
                refine wpAnyH_take (i := 13) (v := ?vn32) rfl (by kernel_rfl) (by kernel_rfl) (by kernel_rfl) (fun _ _ _ h => h) (Or.inl ⟨by rfl, ?yn32⟩) hHeld ?_
                case yn32 => (intro w' hSw; (try dsimp only at hSw); go_simp); (try with_reducible rfl)
                try simp only [Act.put, List.setIfInBounds_toArray, List.set_cons_zero, List.set_cons_succ]
                refine wpAnyH_take (i := 14) (v := ?vn33) rfl (by kernel_rfl) (by kernel_rfl) (by kernel_rfl) (fun _ _ _ h => h) (Or.inl ⟨by rfl, ?yn33⟩) hHeld ?_
                case yn33 => (intro w' hSw; (try dsimp only at hSw); go_simp); (try with_reducible rfl)
                try simp only [Act.put, List.setIfInBounds_toArray, List.set_cons_zero, List.set_cons_succ]
                refine wpAnyH_take (i := 15) (v := ?vn34) rfl (by kernel_rfl) (by kernel_rfl) (by kernel_rfl) (fun _ _ _ h => h) (Or.inl ⟨by rfl, ?yn34⟩) hHeld ?_
                case yn34 => (intro w' hSw; (try dsimp only at hSw); go_simp); (try with_reducible rfl)
                try simp only [Act.put, List.setIfInBounds_toArray, List.set_cons_zero, List.set_cons_succ]
                refine wpAnyH_take (i := 16) (v := ?vn35) rfl (by kernel_rfl) (by kernel_rfl) (by kernel_rfl) (fun _ _ _ h => h) (Or.inl ⟨by rfl, ?yn35⟩) hHeld ?_
                case yn35 => (intro w' hSw; (try dsimp only at hSw); go_simp); (try with_reducible rfl)
                try simp only [Act.put, List.setIfInBounds_toArray, List.set_cons_zero, List.set_cons_succ]
                try simp only [Act.put, List.getElem_toArray, List.getElem_cons_succ, List.getElem_cons_zero, List.setIfInBounds_toArray, List.set_cons_zero, List.set_cons_succ]
                try simp only [Act.put, List.setIfInBounds_toArray, List.set_cons_zero, List.set_cons_succ]
                refine wpAnyH_done (by kernel_rfl) ?_ _
                have hFo : Fr2 w3.heap.size (w.heap.size + 1 + 1) (w.heap.size + 1) w3 wo := hF.trans (Fr2.below (hBqo.mono hws))
                have hvq := hBqv.size
                clear CO CV hHeld hOv
                by_cases hec : ec = 0
                · subst hec
                  have HP := hid (HEN3.out.trans (endO_ok R o))
                  have hAo := hA.below hBqo
                  have u1 := cell_row hAo.row (j := 1) (v := .slice Ag R.gates.length cg) rfl
                  have v1 := frozen_of_row _ _ 1 _ _ hAo.row
                  have g8 := grown_setCell wo ⟨w.heap.size + 1 + 1, 1, none⟩ (.slice Av o.length cv)
                  have row8 := row_set hAo.row (i := 1) (.slice Av o.length cv)
                  have hF8 := hFo.grown (by have := hBqo.size; omega) g8 (fun k e => by cases e; exact .inl rfl)
                  have hK8 : ∀ k, w3.heap.size ≤ k → k < wo.heap.size → (wo.setCell ⟨w.heap.size + 1 + 1, 1, none⟩ (.slice Av o.length cv)).heap[k]? = wo.heap[k]? := fun k h1 h2 => g8.block k h2 (by intro e; injection e with e; have e' : w.heap.size + 1 + 1 = k := e.symm; omega)
                  have hs8 := g8.size
                  obtain ⟨w8, hw8⟩ : ∃ w8, wo.setCell ⟨w.heap.size + 1 + 1, 1, none⟩ (.slice Av o.length cv) = w8 := ⟨_, rfl⟩
                  rw [hw8] at row8 hF8 hK8 hs8
                  have d0 := cell_row row8 (j := 0) (v := .slice Ap R.pre.length cp) rfl
                  have d1 := cell_row row8 (j := 1) (v := .slice Av o.length cv) rfl
                  have d2 := cell_row row8 (j := 2) (v := .int .i64 R.out) rfl
                  obtain ⟨qW, hBW⟩ := HFin.out w8 hF8
                  obtain ⟨f0, c0, f1, c1, f2, c2, rr, gg⟩ := put25 qW (.slice Ap R.pre.length cp) (.slice Av o.length cv) (.int .i64 R.out)
                  clear row8 g8 hAo
                  go_wp2_with fail
                  refine bodyPost_ret (results_row_tmp2Q (p := 2) (u := 3) (x := 4) (ty := 40) rfl _ _ w.heap.size 40 _ (0, 0) _ rfl rr Tryz.underlying40 rfl (by kernel_rfl)) rfl ?_
                  rw [HP.out]
                  exact readR_net HNQ.out.1 HPre.out hn1s HNQ.out.2 hBqo hRG (by omega) (hBW.grown gg hBW.size (fun k e => by cases e; exact Nat.le_refl _)) (Nat.le_trans hs8 gg.size) (fun k h1 h2 => (gg.block k (Nat.lt_of_lt_of_le h2 hs8) (by intro e; injection e with e; omega)).trans (hK8 k h1 h2))
                · have hz2 : (ec != 0) = true := bne_iff_ne.2 hec
                  have HP := hid (HEN3.out.trans (endO_err hec))
                  obtain ⟨qW, hBW⟩ := HFin.out wo hFo
                  obtain ⟨f0, c0, f1, c1, f2, c2, rr, gg⟩ := put25 qW (.slice none 0 0) (.slice none 0 0) (.int .i64 0)
                  clear hec
                  go_wp2_with fail
                  refine bodyPost_ret (results_row_tmp2Q (p := 2) (u := 3) (x := 4) (ty := 40) rfl _ _ w.heap.size 40 _ (0, 0) _ rfl rr Tryz.underlying40 rfl (by kernel_rfl)) rfl ?_
                  rw [HP.out]
                  exact ⟨hBW.grown gg hBW.size (fun k e => by cases e; exact Nat.le_refl _), _, rfl, noNet_at _⟩
              · skip
                go_simp
                refine hKc.out _ _ (hSK.out _ hBq) (fun hHeld => ?_)
                clear hKc Kc
                try simp only [Act.put, List.setIfInBounds_toArray, List.set_cons_zero, List.set_cons_succ]
                refine wpAnyH_ready (rs := [5]) (by kernel_rfl) (by simp) ?_
                refine AllReadyH.cons rfl (fun Kc hKc => ?_) AllReadyH.nil
                go_simp
                go_at_call 50
                refine (CV wq hBq).mono ?_
                rintro e wv ⟨vv, rfl, hOv, hBv⟩
                have hBqv := below_then hBq hBq.size hBv
                go_wp2_with fail
                refine hKc.out _ _ (hSK.out _ hBqv) (fun hHeld => ?_)
                clear hKc Kc
                try simp only [Act.put, List.setIfInBounds_toArray, List.set_cons_zero, List.set_cons_succ]
                refine wpAnyH_ready (rs := [11]) (by kernel_rfl) (by simp) ?_
                refine AllReadyH.cons rfl (fun Kc hKc => ?_) AllReadyH.nil
                go_simp
                go_at_call 67
                refine (CO vv wv hBqv (ints_of_own hOv HV64.out (by omega))).mono ?_
                rintro e wo ⟨hBo, vg, rfl, hRG⟩
                have hBqo := below_then hBqv hBqv.size hBo
                obtain ⟨Av, cv, rfl, hlv, hcv⟩ := hRG.len
                go_wp2_with fail
                refine hKc.out _ _ (hSK.out _ hBqo) (fun hHeld => ?_)
                clear hKc Kc
                try simp only [Act.put, List.setIfInBounds_toArray, List.set_cons_zero, List.set_cons_succ]
                refine wpAnyH_take (i := 12) (v := ?vn36) rfl (by kernel_rfl) (by kernel_rfl) (by kernel_rfl) (fun _ _ _ h => h) (Or.inl ⟨by rfl, ?yn36⟩) hHeld ?_
                case yn36 => (intro w' hSw; (try dsimp only at hSw); go_simp); (try with_reducible rfl)
                try simp only [Act.put, List.setIfInBounds_toArray, List.set_cons_zero, List.set_cons_succ]
                refine wpAnyH_take (i := 13) (v := ?vn37) rfl (by kernel_rfl) (by kernel_rfl) (by kernel_rfl) (fun _ _ _ h => h) (Or.inl ⟨by rfl, ?yn37⟩) hHeld ?_
                case yn37 => (intro w' hSw; (try dsimp only at hSw); go_simp); (try with_reducible rfl)
                try simp only [Act.put, List.setIfInBounds_toArray, List.set_cons_zero, List.set_cons_succ]
                refine wpAnyH_take (i := 14) (v := ?vn38) rfl (by kernel_rfl) (by kernel_rfl) (by kernel_rfl) (fun _ _ _ h => h) (Or.inl ⟨by rfl, ?yn38⟩) hHeld ?_
                case yn38 => (intro w' hSw; (try dsimp only at hSw); go_simp); (try with_reducible rfl)
                try simp only [Act.put, List.setIfInBounds_toArray, List.set_cons_zero, List.set_cons_succ]
                refine wpAnyH_take (i := 15) (v := ?vn39) rfl (by kernel_rfl) (by kernel_rfl) (by kernel_rfl) (fun _ _ _ h => h) (Or.inl ⟨by rfl, ?yn39⟩) hHeld ?_
                case yn39 => (intro w' hSw; (try dsimp only at hSw); go_simp); (try with_reducible rfl)
                try simp only [Act.put, List.setIfInBounds_toArray, List.set_cons_zero, List.set_cons_succ]
                refine wpAnyH_take (i := 16) (v := ?vn40) rfl (by kernel_rfl) (by kernel_rfl) (by kernel_rfl) (fun _ _ _ h => h) (Or.inl ⟨by rfl, ?yn40⟩) hHeld ?_
                case yn40 => (intro w' hSw; (try dsimp only at hSw); go_simp); (try with_reducible rfl)
                try simp only [Act.put, List.setIfInBounds_toArray, List.set_cons_zero, List.set_cons_succ]
                try simp only [Act.put, List.getElem_toArray, List.getElem_cons_succ, List.getElem_cons_zero, List.setIfInBounds_toArray, List.set_cons_zero, List.set_cons_succ]
                try simp only [Act.put, List.setIfInBounds_toArray, List.set_cons_zero, List.set_cons_succ]
                refine wpAnyH_done (by kernel_rfl) ?_ _
                have hFo : Fr2 w3.heap.size (w.heap.size + 1 + 1) (w.heap.size + 1) w3 wo := hF.trans (Fr2.below (hBqo.mono hws))
                have hvq := hBqv.size
                clear CO CV hHeld hOv
                by_cases hec : ec = 0
                · subst hec
                  have HP := hid (HEN3.out.trans (endO_ok R o))
                  have hAo := hA.below hBqo
                  have u1 := cell_row hAo.row (j := 1) (v := .slice Ag R.gates.length cg) rfl
                  have v1 := frozen_of_row _ _ 1 _ _ hAo.row
                  have g8 := grown_setCell wo ⟨w.heap.size + 1 + 1, 1, none⟩ (.slice Av o.length cv)
                  have row8 := row_set hAo.row (i := 1) (.slice Av o.length cv)
                  have hF8 := hFo.grown (by have := hBqo.size; omega) g8 (fun k e => by cases e; exact .inl rfl)
                  have hK8 : ∀ k, w3.heap.size ≤ k → k < wo.heap.size → (wo.setCell ⟨w.heap.size + 1 + 1, 1, none⟩ (.slice Av o.length cv)).heap[k]? = wo.heap[k]? := fun k h1 h2 => g8.block k h2 (by intro e; injection e with e; have e' : w.heap.size + 1 + 1 = k := e.symm; omega)
                  have hs8 := g8.size
                  obtain ⟨w8, hw8⟩ : ∃ w8, wo.setCell ⟨w.heap.size + 1 + 1, 1, none⟩ (.slice Av o.length cv) = w8 := ⟨_, rfl⟩
                  rw [hw8] at row8 hF8 hK8 hs8
                  have d0 := cell_row row8 (j := 0) (v := .slice Ap R.pre.length cp) rfl
                  have d1 := cell_row row8 (j := 1) (v := .slice Av o.length cv) rfl
                  have d2 := cell_row row8 (j := 2) (v := .int .i64 R.out) rfl
                  obtain ⟨qW, hBW⟩ := HFin.out w8 hF8
                  obtain ⟨f0, c0, f1, c1, f2, c2, rr, gg⟩ := put25 qW (.slice Ap R.pre.length cp) (.slice Av o.length cv) (.int .i64 R.out)
                  clear row8 g8 hAo
                  go_wp2_with fail
                  refine bodyPost_ret (results_row_tmp2Q (p := 2) (u := 3) (x := 4) (ty := 40) rfl _ _ w.heap.size 40 _ (0, 0) _ rfl rr Tryz.underlying40 rfl (by kernel_rfl)) rfl ?_
                  rw [HP.out]
                  exact readR_net HNQ.out.1 HPre.out hn1s HNQ.out.2 hBqo hRG (by omega) (hBW.grown gg hBW.size (fun k e => by cases e; exact Nat.le_refl _)) (Nat.le_trans hs8 gg.size) (fun k h1 h2 => (gg.block k (Nat.lt_of_lt_of_le h2 hs8) (by intro e; injection e with e; omega)).trans (hK8 k h1 h2))
                · have hz2 : (ec != 0) = true := bne_iff_ne.2 hec
                  have HP := hid (HEN3.out.trans (endO_err hec))
                  obtain ⟨qW, hBW⟩ := HFin.out wo hFo
                  obtain ⟨f0, c0, f1, c1, f2, c2, rr, gg⟩ := put25 qW (.slice none 0 0) (.slice none 0 0) (.int .i64 0)
                  clear hec
                  go_wp2_with fail
                  refine bodyPost_ret (results_row_tmp2Q (p := 2) (u := 3) (x := 4) (ty := 40) rfl _ _ w.heap.size 40 _ (0, 0) _ rfl rr Tryz.underlying40 rfl (by kernel_rfl)) rfl ?_
                  rw [HP.out]
                  exact ⟨hBW.grown gg hBW.size (fun k e => by cases e; exact Nat.le_refl _), _, rfl, noNet_at _⟩
end Go.Proofs.YtnlobmepajakcaaGreatDoor
