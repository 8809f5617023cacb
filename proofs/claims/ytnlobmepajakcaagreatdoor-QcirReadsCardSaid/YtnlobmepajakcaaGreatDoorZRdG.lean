/- What gate of qcir's reader does; the condition: texts have at most 2^22 bytes. -/
import Derived.Test.YtnlobmepajakcaaGreatDoorZRdO
set_option linter.unusedVariables false
set_option linter.unusedSimpArgs false
namespace Go.Proofs.YtnlobmepajakcaaGreatDoor
open Go.RowKit Go.Shelf

attribute [local go_sem] Oper.semAt_some
section
variable {P : Program} {ops : Array Oper} {o : Oper} {a : Act} {Q : Exit → Act → World → Prop} {K : Act → World → Prop} {E : Prop}
/-- append of one element of one's own, at a step of a region that draws its order. -/
theorem step_append_one {W : World} (base : Nat) (hgd : o.guard = none) (s x : Operand) (t e : TypeId) (z : Value) (size bytes : Nat)
    (ho : o.op = .call { callee := .builtin .append, args := #[s, x], argTypes := #[t, t] })
    (ht : P.underlying t = some (.slice e)) (hinfo : (P.info? e).map (fun i => (i.zero, i.size, i.bytes)) = some (some z, size, bytes)) (hz : z.cells.size = size) (hs0 : 0 < size) (hb0 : 0 < bytes)
    (v : Value) (n : Nat) (xs : List Value) (cs : Array Value) (hs : a.eval s = v) (hx : a.eval x = .slice (some ⟨W.heap.size, 0, none⟩) 1 1) (hcs : cs.size = size) (h1 : ∀ u ∈ cs.toList, u.oneCell' = true)
    (HO : W.ownsRow base e size v n xs) (hbase : base ≤ W.heap.size) (hl : (n + 1) * bytes ≤ 140737488355328)
    (h : ∀ g cap w1, w1.ownsRow base e size (.slice (some ⟨g, 0, none⟩) (n + 1) cap) (n + 1) (xs ++ cs.toList) → W.grownBy w1 v.ownBlock → (v.ownBlock = some g ∨ W.heap.size ≤ g) → base ≤ g → g < w1.heap.size →
      K (a.put o.dst (.slice (some ⟨g, 0, none⟩) (n + 1) cap)) w1) :
    if Region.wanted o (yielded ops a.tmps) = true then Oper.wp P o a (W.alloc (.cells cs e)).drew K Q else E := by
  obtain ⟨i0, hi, hzz⟩ := Option.map_eq_some_iff.1 hinfo
  simp only [Prod.mk.injEq] at hzz
  obtain ⟨hz0, hz1, hz2⟩ := hzz
  have hlen : n + 1 ≤ 140737488355328 := Nat.le_trans (Nat.le_mul_of_pos_right _ hb0) hl
  refine step_append_lies (w := (W.alloc (.cells cs e)).drew) hgd s x t ho base e i0 z size bytes ht hi hz0 hz1 hz2 hz hs0 v n xs hs (HO.alloc _).drew ⟨W.heap.size, 0, none⟩ 1 1 cs.toList hx (by simp [hcs])
    (World.news_of_block (cs := cs) (t := e) (fr := (0, 0)) (heap_alloc_new W _)) h1 (by omega) (by simp only [maxLen]; omega) hl (by simp; omega) (W.heap.size + 1) (by simp) ?_
  intro g cap w1 hown hg hat hlt
  obtain ⟨g', cap', e', hbg, hlt', _⟩ := own_form hown (by omega)
  cases e'
  refine h g cap w1 hown (World.grownBy.trans (World.grownBy_alloc W _ _) ⟨hg.os, hg.tape, hg.output, hg.size, hg.block⟩) (hat.imp id (fun e => by omega)) hbg hlt
end
theorem bytes_eq (a b : Bs) : ((⟨a.toArray⟩ : ByteArray) = ⟨b.toArray⟩) ↔ a = b := by
  constructor
  · intro h
    have := congrArg (fun x : ByteArray => x.data.toList) h
    simpa using this
  · rintro rfl; rfl
theorem idx_kind (w : Bs) : Lib.idxOfS [⟨wAnd.toArray⟩, ⟨wOr.toArray⟩, ⟨wXor.toArray⟩, ⟨wIte.toArray⟩] ⟨w.toArray⟩ = (kindP w : Int) - 1 := by
  unfold Lib.idxOfS kindP
  simp only [Lib.idxFromS, bytes_eq]
  by_cases h1 : wAnd = w
  · subst h1; simp
  · have h1' : ¬ w = wAnd := fun e => h1 e.symm
    rw [if_neg h1, if_neg h1']
    by_cases h2 : wOr = w
    · subst h2; simp
    · have h2' : ¬ w = wOr := fun e => h2 e.symm
      rw [if_neg h2, if_neg h2']
      by_cases h3 : wXor = w
      · subst h3; simp
      · have h3' : ¬ w = wXor := fun e => h3 e.symm
        rw [if_neg h3, if_neg h3']
        by_cases h4 : wIte = w
        · subst h4; simp
        · have h4' : ¬ w = wIte := fun e => h4 e.symm
          rw [if_neg h4, if_neg h4']
          rfl
theorem kindP_le (w : Bs) : kindP w ≤ 4 := by
  unfold kindP
  split
  · decide
  · split
    · decide
    · split
      · decide
      · split <;> decide
theorem index_any (w : World) (t : Bs) (hE : Env w) : Calls Tryz.prog 125 #[.slice (some ⟨0, 1, none⟩) 4 4, .string ⟨t.toArray⟩] w fun e w' => e = .returned (.int .i64 ((kindP t : Int) - 1)) ∧ w' = w := by
  obtain ⟨ty, fz, hr⟩ := hE.words
  have H := Tryz.slices_Index_string 0 1 4 4 [⟨wAnd.toArray⟩, ⟨wOr.toArray⟩, ⟨wXor.toArray⟩, ⟨wIte.toArray⟩] ⟨t.toArray⟩ w (by decide) (by decide) (fun j hj => by
    have hj4 : j = 0 ∨ j = 1 ∨ j = 2 ∨ j = 3 := by simp at hj; omega
    rcases hj4 with rfl | rfl | rfl | rfl
    · exact cell_row hr rfl
    · exact cell_row hr rfl
    · exact cell_row hr rfl
    · exact cell_row hr rfl)
  rw [show List.take 4 [(⟨wAnd.toArray⟩ : ByteArray), ⟨wOr.toArray⟩, ⟨wXor.toArray⟩, ⟨wIte.toArray⟩] = [⟨wAnd.toArray⟩, ⟨wOr.toArray⟩, ⟨wXor.toArray⟩, ⟨wIte.toArray⟩] from rfl, idx_kind] at H
  exact H
set_option maxRecDepth 100000 in
set_option maxHeartbeats 2000000 in
theorem gate_any (n0 r b no : Nat) (R : RS) (s : Scan) (wL w : World) (hR : Rdr wL n0 r R no) (hB : Below wL.heap.size wL w) (hb : wL.heap.size ≤ b) (hs : ScanAt w b s) (hl : s.rest.length ≤ 4194304) (hE : Env w) (hno : no ≤ 4194305) :
    Calls Tryz.prog 81 #[.pointer (some ⟨r, 0, none⟩), .pointer (some ⟨b, 0, none⟩), .int .i64 (no : Int)] w fun e w' =>
      e = .returned (.int .i64 (addL R no (gateL s)).1) ∧ Fr n0 r w w' ∧ ((addL R no (gateL s)).1 = 0 → Rdr w' n0 r (addL R no (gateL s)).2 (no + 1)) := by
  have hb9 : 9 ≤ b := by have := hR.nine; have := hR.lt; have := hR.size; omega
  have hbw := hs.lt
  have CN := number_any b s w hs (by omega) hE hb9
  have hvb := numberP_bound s
  have hvl := numberP_len s
  have hLF : ∀ w1, w.grownBy w1 (some b) → Fr n0 r w w1 ∧ Below wL.heap.size wL w1 ∧ Env w1 := fun w1 hg =>
    ⟨(Fr.refl n0 r w).grown (Nat.le_trans hR.size hB.size) hg (fun k e => by cases e; right; exact Nat.le_trans hR.size hb), hB.grown hg hB.size (fun k e => by cases e; exact hb), hE.grown hg (fun k e => by cases e; exact hb9)⟩
  have hGL : gateL s = if (listP literalP ⟨(takeP isLow (needP 61 (numberP s).2).rest).2, (needP 61 (numberP s).2).ok⟩).2.ok = true ∧ kindP (takeP isLow (needP 61 (numberP s).2).rest).1 ≠ 0 then
      .gate (numberP s).1 (kindP (takeP isLow (needP 61 (numberP s).2).rest).1) (listP literalP ⟨(takeP isLow (needP 61 (numberP s).2).rest).2, (needP 61 (numberP s).2).ok⟩).1 else .bad := rfl
  generalize hv : numberP s = v at *
  obtain ⟨v, s1⟩ := v
  simp only [] at CN hvb hvl hGL
  obtain ⟨vn, rfl⟩ : ∃ k : Nat, v = (k : Int) := ⟨v.toNat, by omega⟩
  have hnl := needP_len 61 s1
  generalize hs2 : needP 61 s1 = s2 at *
  have htl := takeP_len isLow s2.rest
  generalize htk : takeP isLow s2.rest = tk at *
  obtain ⟨wd, r3⟩ := tk
  simp only [] at htl hGL
  go_enter Tryz.func81, Tryz.ntmps81
  go_wp2_with (first | (go_at_call 123; refine CN.mono ?_; rintro e w1 ⟨rfl, h1, hg⟩) | fail)
  have G1 : (w1.alloc (.cells #[.int .i64 (vn : Int), .int .u8 0, .slice none 0 0] 88)).heap[w1.heap.size]? = some (.cells #[.int .i64 (vn : Int), .int .u8 0, .slice none 0 0] 88 (0, 0)) := heap_alloc_new w1 _
  have B12 : Below w1.heap.size w1 (w1.alloc (.cells #[.int .i64 (vn : Int), .int .u8 0, .slice none 0 0] 88)) := (Below.refl _ w1).alloc (Nat.le_refl _) _
  have Z2 : (w1.alloc (.cells #[.int .i64 (vn : Int), .int .u8 0, .slice none 0 0] 88)).heap.size = w1.heap.size + 1 := by simp
  generalize (w1.alloc (.cells #[.int .i64 (vn : Int), .int .u8 0, .slice none 0 0] 88)) = w2 at *
  generalize hq : w1.heap.size = q at *
  have h2 : ScanAt w2 b s1 := row_below h1 (hq ▸ B12)
  have hbq : b < q := by rw [← hq]; exact h1.lt
  have g2 : w.grownBy w2 (some b) := hg.trans (grown_of_below (hq ▸ B12) _)
  have CN2 := need_any 61 b s1 w2 h2 (by omega)
  rw [hs2] at CN2
  have HQ := hid hq
  have HZ := hid Z2
  clear hq Z2 B12
  refine CN2.mono ?_
  rintro e w3 ⟨rfl, h3, g23⟩
  have G3 := row_grown G1 g23 (by intro e; injection e with e; omega)
  have g3 := g2.trans g23
  have h3d : ScanAt w3.drew b s2 := h3
  have g3d : w.grownBy w3.drew (some b) := ⟨g3.os, g3.tape, g3.output, g3.size, g3.block⟩
  have G3d : w3.drew.heap[q]? = some (.cells #[.int .i64 (vn : Int), .int .u8 0, .slice none 0 0] 88 (0, 0)) := G3
  have CW := word_any b s2 w3.drew h3d (by omega)
  rw [htk] at CW
  clear G1 h2 CN2 CN g23
  go_wp2_with fail
  go_region_held3 (fun w' => True) (exact trivial)
    (first | (go_at_call 82; refine CW.mono ?_; rintro e w4 ⟨rfl, h4, g34⟩; have g4 := g3d.trans g34; have C125 := index_any w4 wd (hLF w4 g4).2.2; have G4 := row_grown G3d g34 (by intro e; injection e with e; omega)) | (go_at_call 125; refine C125.mono ?_; rintro e w' ⟨rfl, hw⟩; obtain rfl : w4 = w' := hw.symm) | fail)
  clear CW G3 G3d g3 h3 h3d C125 g3d g34
  have hK4 := kindP_le wd
  generalize hK : kindP wd = K at *
  have CL := list_lit b w4 hb9 (hLF w4 g4).2.2 _ h4 (by simp only []; omega)
  have hsm := listP_small literalP_bound ⟨r3, s2.ok⟩
  have hlen := listP_len literalP ⟨r3, s2.ok⟩
  generalize hls : listP literalP ⟨r3, s2.ok⟩ = ls at *
  obtain ⟨l, ⟨r5, ok⟩⟩ := ls
  simp only [] at CL hsm hlen hGL
  clear hls h4
  have hK1 : (K : Int) ≤ 4 := by omega
  have hKm : ((K : Int)) % 256 = K := by omega
  go_wp2_with fail
  go_at_call 126
  refine CL.mono ?_
  rintro e w5 ⟨A, c, rfl, h5, g45, hO⟩
  have hq4 : q < w4.heap.size := (Array.getElem?_eq_some_iff.1 G4).1
  have G5 := row_grown G4 g45 (by intro e; injection e with e; omega)
  have g5 := g4.trans g45
  clear CL G4
  have f52 := frozen_of_row _ q 2 _ _ G5
  have c52 := cell_row G5 (j := 2) rfl
  have G6 := row_set (i := 2) G5 (.slice A l.length c)
  simp only [List.setIfInBounds_toArray, List.set_cons_succ, List.set_cons_zero] at G6
  have f61 := frozen_of_row _ q 1 _ _ G6
  have c61 := cell_row G6 (j := 1) rfl
  have G7 := row_set (i := 1) G6 (.int .u8 (K : Int))
  simp only [List.setIfInBounds_toArray, List.set_cons_succ, List.set_cons_zero] at G7
  have c71 := cell_row G7 (j := 1) rfl
  have c72 := cell_row G7 (j := 2) rfl
  have gW : w5.grownBy ((w5.setCell ⟨q, 2, none⟩ (.slice A l.length c)).setCell ⟨q, 1, none⟩ (.int .u8 (K : Int))) (some q) := (grown_setCell w5 ⟨q, 2, none⟩ _).trans (grown_setCell _ ⟨q, 1, none⟩ _)
  obtain ⟨pv, gv, av, hA, hph⟩ := hR.mem
  have hrl := hA.lt
  have hqb : wL.heap.size ≤ q := by rw [← HQ.out]; exact Nat.le_trans (hB.grown hg hB.size (fun k e => by cases e; exact hb)).size (Nat.le_refl _)
  have hq5 : q < w5.heap.size := (Array.getElem?_eq_some_iff.1 G5).1
  have hW7 : Fr n0 r w ((w5.setCell ⟨q, 2, none⟩ (.slice A l.length c)).setCell ⟨q, 1, none⟩ (.int .u8 (K : Int))) ∧ Below wL.heap.size wL ((w5.setCell ⟨q, 2, none⟩ (.slice A l.length c)).setCell ⟨q, 1, none⟩ (.int .u8 (K : Int))) :=
    ⟨(hLF w5 g5).1.grown (Nat.le_trans hR.size (hLF w5 g5).2.1.size) gW (fun k e => by cases e; right; exact Nat.le_trans hR.size hqb), (hLF w5 g5).2.1.grown gW (hLF w5 g5).2.1.size (fun k e => by cases e; exact hqb)⟩
  have h7 := h5.moved gW (by intro e; injection e with e; omega)
  have hA7 : RdAt ((w5.setCell ⟨q, 2, none⟩ (.slice A l.length c)).setCell ⟨q, 1, none⟩ (.int .u8 (K : Int))) r pv gv av R := hA.heap (hW7.2.block r hrl)
  have c7o := cell_row h7 (j := 1) rfl
  have c7d := hA7.cDone
  have hHL : gateL s = if ok = true ∧ K ≠ 0 then .gate (vn : Int) K l else .bad := hGL
  have HHL := hid hHL
  clear hHL hGL
  cases ok with
  | false =>
    have HP : addL R no (gateL s) = (5, R) := by rw [HHL.out, if_neg (by simp)]; rfl
    have HPH := hid HP
    clear HP
    go_wp2_with fail
    go_ret
    rw [HPH.out]
    exact ⟨rfl, hW7.1, fun h => absurd h (by simp)⟩
  | true =>
    by_cases hK0 : K = 0
    · have HP : addL R no (gateL s) = (5, R) := by rw [HHL.out, if_neg (by simp [hK0])]; rfl
      have HPH := hid HP
      have hneg : (K : Int) - 1 < 0 := by omega
      clear HP hK0
      go_wp2_with fail
      go_ret
      rw [HPH.out]
      exact ⟨rfl, hW7.1, fun h => absurd h (by simp)⟩
    · have hneg : decide ((K : Int) - 1 < 0) = false := decide_eq_false (by omega)
      have hL2 : gateL s = .gate (vn : Int) K l := by rw [HHL.out, if_pos ⟨rfl, hK0⟩]
      have HK0 := hid hK0
      have HL2 := hid hL2
      clear HHL hL2 hK0
      cases hd : R.done with
      | false =>
        have HP : addL R no (gateL s) = (5, R) := by rw [HL2.out]; unfold addL; simp [hd]
        have HPH := hid HP
        rw [hd] at c7d
        clear HP hd
        go_wp2_with fail
        go_ret
        rw [HPH.out]
        exact ⟨rfl, hW7.1, fun h => absurd h (by simp)⟩
      | true =>
        rw [hd] at c7d
        have HD := hid hd
        clear hd
        have c70 := cell_row G7 (j := 0) rfl
        have hqr : q ≠ r := by omega
        have CD := declare_any r pv gv av R vn _ hA7 (by omega)
        have hli : R.lits ≤ 200000 := hR.ok.lits
        have hll : l.length ≤ 4194306 := by omega
        by_cases hk3 : K = 3
        · by_cases ha : l.length = 2
          · have e3 : ((K : Int) == 3) = true := by rw [beq_iff_eq]; omega
            have e4 : ((K : Int) == 4) = false := by rw [beq_eq_false_iff_ne]; omega
            have a2 : ((l.length : Int) != 2) = false := by rw [bne_eq_false_iff_eq]; omega
            have HAR : Hid (¬ ((K = 3 ∧ l.length ≠ 2) ∨ (K = 4 ∧ l.length ≠ 3))) := hid (by omega)
            clear hk3 ha
            cases hsn : R.seen vn with
            | true =>
              have HP : addL R no (gateL s) = (7, R) := by
                rw [HL2.out]
                unfold addL
                simp only [Int.toNat_natCast]
                rw [if_neg (by rw [HD.out]; simp), if_neg HAR.out, if_pos hsn]
              have HPH := hid HP
              rw [hsn] at CD
              clear HP hsn
              go_wp2_with (first | (go_at_call 128; refine CD.mono ?_; rintro e w8 ⟨rfl, hA8, g78⟩) | fail)
              go_ret
              rw [HPH.out]
              exact ⟨rfl, hW7.1.grown (Nat.le_trans hR.size hW7.2.size) g78 (fun k e => by cases e; exact .inl rfl), fun h => absurd h (by simp)⟩
            | false =>
              rw [hsn] at CD
              have HSN := hid hsn
              clear hsn
              go_wp2_with fail
              go_at_call 128
              refine CD.mono ?_
              rintro e w8 ⟨rfl, hA8, g78⟩
              have G8 := row_grown G7 g78 (by intro e; injection e with e; exact hqr e.symm)
              have hF8 : Fr n0 r w w8 := hW7.1.grown (Nat.le_trans hR.size hW7.2.size) g78 (fun k e => by cases e; exact .inl rfl)
              clear CD c7o c7d c70 c71 c72 c61 f61 c52 f52 hA7 h7
              have cl8 := hA8.cLits
              simp only [] at cl8
              have fl8 := hA8.free 65541
              have hA9 := hA8.put 65541 (.int .i64 ((R.lits : Int) + (l.length : Int))) (fun cs h => by rw [← Int.natCast_add]; exact h.setLits _)
              have cl9 := hA9.cLits
              simp only [Int.natCast_add] at cl9
              by_cases hov : 200000 < R.lits + l.length
              · have HP : addL R no (gateL s) = (3, R) := by
                  rw [HL2.out]
                  unfold addL
                  simp only [Int.toNat_natCast]
                  rw [if_neg (by rw [HD.out]; simp), if_neg HAR.out, if_neg (by rw [HSN.out]; simp), if_pos hov]
                have HPH := hid HP
                have hov2 : (200000 : Int) < (R.lits : Int) + (l.length : Int) := by omega
                clear HP hov
                go_wp2_with fail
                go_ret
                rw [HPH.out]
                exact ⟨rfl, hF8.grown (by have := hF8.size; have := hR.size; have := hB.size; omega) (grown_setCell w8 ⟨r, 65541, none⟩ _) (fun k e => by injection e with e; exact .inl e.symm), fun h => absurd h (by simp)⟩
              · have hov2 : decide ((200000 : Int) < (R.lits : Int) + (l.length : Int)) = false := decide_eq_false (by omega)
                have HOV := hid hov
                have HP := hid (show addL R no (gateL s) = (0, { R with seen := upd R.seen vn true, lits := R.lits + l.length, gates := R.gates ++ [⟨(vn : Int), (K : Int), l⟩], at_ := R.at_ ++ [no] }) by
                  rw [HL2.out]
                  unfold addL
                  simp only [Int.toNat_natCast]
                  rw [if_neg (by rw [HD.out]; simp), if_neg HAR.out, if_neg (by rw [HSN.out]; simp), if_neg hov])
                have HOK : Hid (RSok { R with seen := upd R.seen vn true, lits := R.lits + l.length, gates := R.gates ++ [⟨(vn : Int), (K : Int), l⟩], at_ := R.at_ ++ [no] } (no + 1)) := by
                  have hk := hR.ok
                  refine hid ⟨hk.vars, hk.nv, by simp only []; omega, hk.pre, Nat.le_succ_of_le hk.prel, ?_, ?_, fun g hg' => ?_, hk.out⟩
                  · have := hk.gl; simp only [List.length_append, List.length_cons, List.length_nil]; omega
                  · have := hk.al; simp only [List.length_append, List.length_cons, List.length_nil]; omega
                  · rcases List.mem_append.1 hg' with hg' | hg'
                    · exact hk.gs g hg'
                    · rw [List.mem_singleton.1 hg']
                      exact ⟨⟨by simp only []; omega, by simp only []; omega⟩, ⟨by simp only []; omega, by simp only []; omega⟩, hsm⟩
                clear hov
                go_wp2_with fail
                rcases hph with ⟨h0, _⟩ | ⟨-, n1, hn01, hn1s, hPre, hGA⟩
                · rw [HD.out] at h0; cases h0
                have hBW := hW7.2
                have g79 : ((w5.setCell ⟨q, 2, none⟩ (.slice A l.length c)).setCell ⟨q, 1, none⟩ (.int .u8 (K : Int))).grownBy (w8.setCell ⟨r, 65541, none⟩ (.int .i64 ((R.lits : Int) + (l.length : Int)))) (some r) := g78.trans (grown_setCell w8 ⟨r, 65541, none⟩ _)
                have G9 := row_grown G7 g79 (by intro e; injection e with e; exact hqr e.symm)
                have hF9 : Fr n0 r w (w8.setCell ⟨r, 65541, none⟩ (.int .i64 ((R.lits : Int) + (l.length : Int)))) := hW7.1.grown (Nat.le_trans hR.size hBW.size) g79 (fun k e => by cases e; exact .inl rfl)
                have hO7 : ((w5.setCell ⟨q, 2, none⟩ (.slice A l.length c)).setCell ⟨q, 1, none⟩ (.int .u8 (K : Int))).ownsRow w4.heap.size 3 1 (.slice A l.length c) l.length (nums l) := own_far hO gW hq4
                have hr4 : r < w4.heap.size := by have := hR.lt; have := hR.size; omega
                have hO9 := own_far hO7 g79 hr4
                have hK9 : ∀ k, n0 ≤ k → k < wL.heap.size → (w8.setCell ⟨r, 65541, none⟩ (.int .i64 ((R.lits : Int) + (l.length : Int)))).heap[k]? = wL.heap[k]? := fun k hk hk2 =>
                  (g79.block k (by have := hBW.size; omega) (by intro e; injection e with e; have := hR.lt; omega)).trans (hBW.block k hk2)
                have hs9 : wL.heap.size ≤ (w8.setCell ⟨r, 65541, none⟩ (.int .i64 ((R.lits : Int) + (l.length : Int)))).heap.size := Nat.le_trans hBW.size g79.size
                generalize (w8.setCell ⟨r, 65541, none⟩ (.int .i64 ((R.lits : Int) + (l.length : Int)))) = w9 at *
                have hGA9 : GA w9 n1 gv av R.gates R.at_ := hGA.keep hs9 (fun k hk hk2 => hK9 k (by omega) hk2)
                have hPre9 : PreAt w9 n0 n1 pv R.pre := hPre.keep (fun k hk hk2 => hK9 k hk (by omega))
                obtain ⟨xs, hrow⟩ := hGA9.stay.row
                obtain ⟨Ag, cg, rfl, -, -⟩ := hGA9.stay.form
                have hgvl : ∀ k, (Value.slice Ag R.gates.length cg).ownBlock = some k → n1 ≤ k ∧ k < wL.heap.size := fun k e => by
                  obtain ⟨xs', h'⟩ := hGA.stay.row
                  exact h'.lt k e
                have havl : ∀ k, av.ownBlock = some k → n1 ≤ k ∧ k < wL.heap.size := fun k e => hGA.ats.lt k e
                have hgl : R.gates.length ≤ 4194305 := Nat.le_trans hR.ok.gl hno
                have HGL := hid hgl
                have hb40 : (R.gates.length + 1) * 40 ≤ 140737488355328 := by omega
                clear hgl hPre hK9 g79 g78 gW G7 G8 cl8 fl8 cl9 hO7 hO hBW hW7 hGA
                have hn19 : n1 ≤ w9.heap.size := by omega
                have cg9 := hA9.cGat
                have s0 := cell_row G9 (j := 0) rfl
                have s1' := cell_row G9 (j := 1) rfl
                have s2' := cell_row G9 (j := 2) rfl
                have HSW : Hid (∀ w', Below w9.heap.size w9 w' → w'.cell? ⟨q, 0, none⟩ = some (.int .i64 (vn : Int)) ∧ w'.cell? ⟨q, 1, none⟩ = some (.int .u8 (K : Int)) ∧ w'.cell? ⟨q, 2, none⟩ = some (.slice A l.length c)) := hid fun W hW => ⟨keeps_below hW _ _ s0, keeps_below hW _ _ s1', keeps_below hW _ _ s2'⟩
                have HSW4 : Hid (∀ w', w9.grownBy w' (Value.slice Ag R.gates.length cg).ownBlock → w'.cell? ⟨q, 0, none⟩ = some (.int .i64 (vn : Int)) ∧ w'.cell? ⟨q, 1, none⟩ = some (.int .u8 (K : Int)) ∧ w'.cell? ⟨q, 2, none⟩ = some (.slice A l.length c)) := hid fun W hW =>
                  ⟨hW.cell s0 (fun e => by have := (hgvl q e.symm).2; omega), hW.cell s1' (fun e => by have := (hgvl q e.symm).2; omega), hW.cell s2' (fun e => by have := (hgvl q e.symm).2; omega)⟩
                have HSW5 : Hid (∀ (W w' : World), W.grownBy w' (some r) → (W.cell? ⟨q, 0, none⟩ = some (.int .i64 (vn : Int)) ∧ W.cell? ⟨q, 1, none⟩ = some (.int .u8 (K : Int)) ∧ W.cell? ⟨q, 2, none⟩ = some (.slice A l.length c)) → (w'.cell? ⟨q, 0, none⟩ = some (.int .i64 (vn : Int)) ∧ w'.cell? ⟨q, 1, none⟩ = some (.int .u8 (K : Int)) ∧ w'.cell? ⟨q, 2, none⟩ = some (.slice A l.length c))) := hid fun W W' hW ⟨h1, h2, h3⟩ =>
                  ⟨hW.cell h1 (fun e => by injection e with e; exact hqr e), hW.cell h2 (fun e => by injection e with e; exact hqr e), hW.cell h3 (fun e => by injection e with e; exact hqr e)⟩
                have cgA : (w9.alloc (.cells #[.int .i64 (vn : Int), .int .u8 (K : Int), .slice A l.length c] 88)).cell? ⟨r, 1, none⟩ = some (.slice Ag R.gates.length cg) := keeps_below ((Below.refl _ w9).alloc (Nat.le_refl _) _) _ _ cg9
                clear s0 s1' s2'
                refine wp_region_held_drew (S := fun w' => w'.cell? ⟨q, 0, none⟩ = some (.int .i64 (vn : Int)) ∧ w'.cell? ⟨q, 1, none⟩ = some (.int .u8 (K : Int)) ∧ w'.cell? ⟨q, 2, none⟩ = some (.slice A l.length c)) (by kernel_rfl) (HSW.out _ ((Below.refl _ w9).drew)) (fun hHeld => ?_)
                refine wpAnyH_take (i := 0) (v := ?v0) rfl (by kernel_rfl) (by kernel_rfl) (by kernel_rfl) (fun _ _ _ h => h) (Or.inl ⟨by rfl, ?y0⟩) hHeld ?_
                case y0 => (intro w hSw; (try dsimp only at hSw); go_simp); (try with_reducible rfl)
                try simp only [Act.put, List.setIfInBounds_toArray, List.set_cons_zero, List.set_cons_succ]
                refine wpAnyH_take (i := 1) (v := ?v1) rfl (by kernel_rfl) (by kernel_rfl) (by kernel_rfl) (fun _ _ _ h => h) (Or.inl ⟨by rfl, ?y1⟩) hHeld ?_
                case y1 => (intro w hSw; (try dsimp only at hSw); go_simp); (try with_reducible rfl)
                try simp only [Act.put, List.setIfInBounds_toArray, List.set_cons_zero, List.set_cons_succ]
                refine wpAnyH_take (i := 2) (v := ?v2) rfl (by kernel_rfl) (by kernel_rfl) (by kernel_rfl) (fun _ _ _ h => h) (Or.inl ⟨by rfl, ?y2⟩) hHeld ?_
                case y2 => (intro w hSw; (try dsimp only at hSw); go_simp); (try with_reducible rfl)
                try simp only [Act.put, List.setIfInBounds_toArray, List.set_cons_zero, List.set_cons_succ]
                refine wpAnyH_take (i := 3) (v := ?v3) rfl (by kernel_rfl) (by kernel_rfl) (by kernel_rfl) (fun _ _ _ h => h) (Or.inl ⟨by rfl, ?y3⟩) hHeld ?_
                case y3 => (intro w hSw; (try dsimp only at hSw); go_simp); (try with_reducible rfl)
                try simp only [Act.put, List.setIfInBounds_toArray, List.set_cons_zero, List.set_cons_succ]
                refine wpAnyH_take (i := 4) (v := ?v4) rfl (by kernel_rfl) (by kernel_rfl) (by kernel_rfl) (fun _ _ _ h => h) (Or.inl ⟨by rfl, ?y4⟩) hHeld ?_
                case y4 => (intro w hSw; (try dsimp only at hSw); go_simp); (try with_reducible rfl)
                try simp only [Act.put, List.setIfInBounds_toArray, List.set_cons_zero, List.set_cons_succ]
                refine wpAnyH_take (i := 6) (v := ?v6) rfl (by kernel_rfl) (by kernel_rfl) (by kernel_rfl) (fun _ _ _ h => h) (Or.inl ⟨by rfl, ?y6⟩) hHeld ?_
                case y6 => (intro w hSw; (try dsimp only at hSw); go_simp); (try with_reducible rfl)
                try simp only [Act.put, List.setIfInBounds_toArray, List.set_cons_zero, List.set_cons_succ]
                refine wpAnyH_ready (rs := [5, 7]) (by kernel_rfl) (by simp) ?_
                refine AllReadyH.cons rfl (fun Kc hKc => ?_) (AllReadyH.cons rfl (fun Kc hKc => ?_) AllReadyH.nil)
                · go_simp
                  refine hKc.out _ _ hHeld (fun hHeld => ?_)
                  clear hKc Kc
                  try simp only [Act.put, List.setIfInBounds_toArray, List.set_cons_zero, List.set_cons_succ]
                  refine wpAnyH_ready (rs := [7]) (by kernel_rfl) (by simp) ?_
                  refine AllReadyH.cons rfl (fun Kc hKc => ?_) AllReadyH.nil
                  go_simp
                  refine hKc.out _ _ (HSW.out _ (((Below.refl _ w9).alloc (Nat.le_refl _) _).drew)) (fun hHeld => ?_)
                  clear hKc Kc
                  try simp only [Act.put, List.setIfInBounds_toArray, List.set_cons_zero, List.set_cons_succ]
                  refine wpAnyH_ready (rs := [8]) (by kernel_rfl) (by simp) ?_
                  refine AllReadyH.cons rfl (fun Kc hKc => ?_) AllReadyH.nil
                  refine step_append_one (W := w9) n1 (by rfl) _ _ 38 88 (.agg #[.int .i64 0, .int .u8 0, .slice none 0 0]) 3 40 (by rfl) Tryz.underlying38 info70 rfl (by decide) (by decide) (.slice Ag R.gates.length cg) R.gates.length xs #[.int .i64 (vn : Int), .int .u8 (K : Int), .slice A l.length c] (by rfl) (by rfl) rfl (by intro u hu; simp at hu; rcases hu with rfl | rfl | rfl <;> rfl) hrow hn19 hb40 ?_
                  intro g2 cap2 w10 hO10 hG10 hg10 hbg hlt10
                  have SK := HSW4.out w10 hG10
                  have hA10 := hA9.grown hG10 (fun e => by have := hgvl r e; have := hR.lt; omega)
                  have c10 := hA10.cGat
                  have f10 := hA10.free 1
                  refine hKc.out _ _ SK (fun hHeld => ?_)
                  clear hKc Kc
                  try simp only [Act.put, List.setIfInBounds_toArray, List.set_cons_zero, List.set_cons_succ]
                  refine wpAnyH_take (i := 9) (v := ?v9a) rfl (by kernel_rfl) (by kernel_rfl) (by kernel_rfl) (fun _ _ _ h => h) (Or.inl ⟨by rfl, ?y9a⟩) hHeld ?_
                  case y9a => (intro w hSw; (try dsimp only at hSw); go_simp); (try with_reducible rfl)
                  try simp only [Act.put, List.setIfInBounds_toArray, List.set_cons_zero, List.set_cons_succ]
                  refine wpAnyH_take (i := 10) (v := ?v10a) rfl (by kernel_rfl) (by kernel_rfl) (by kernel_rfl) (fun _ _ _ h => h) (Or.inl ⟨by rfl, ?y10a⟩) hHeld ?_
                  case y10a => (intro w hSw; (try dsimp only at hSw); go_simp); (try with_reducible rfl)
                  try simp only [Act.put, List.setIfInBounds_toArray, List.set_cons_zero, List.set_cons_succ]
                  refine wpAnyH_take (i := 11) (v := ?v11a) rfl (by kernel_rfl) (by kernel_rfl) (by kernel_rfl) (fun _ _ _ h => h) (Or.inl ⟨by rfl, ?y11a⟩) hHeld ?_
                  case y11a => (intro w hSw; (try dsimp only at hSw); go_simp); (try with_reducible rfl)
                  try simp only [Act.put, List.setIfInBounds_toArray, List.set_cons_zero, List.set_cons_succ]
                  refine wpAnyH_ready (rs := [12]) (by kernel_rfl) (by simp) ?_
                  refine AllReadyH.cons rfl (fun Kc hKc => ?_) AllReadyH.nil
                  go_simp
                  refine hKc.out _ _ (HSW5.out _ _ (grown_setCell w10 ⟨r, 1, none⟩ _) SK) (fun hHeld => ?_)
                  clear hKc Kc
                  try simp only [Act.put, List.setIfInBounds_toArray, List.set_cons_zero, List.set_cons_succ]
                  refine wpAnyH_done (by kernel_rfl) ?_ _
                  have hGA10 : GA w10 n1 (.slice (some ⟨g2, 0, none⟩) (R.gates.length + 1) cap2) av (R.gates ++ [⟨(vn : Int), (K : Int), l⟩]) R.at_ := by
                    refine hGA9.pushG (n := wL.heap.size) ⟨⟨by simp only []; omega, by simp only []; omega⟩, by simp only []; omega, by simp only []; omega⟩ (ints_of_own hO9 (fun x hx => by have := hsm x hx; exact ⟨by omega, by omega⟩) (by omega)) (fun k e => ⟨by have := (hO9.lt k e).1; omega, (hO9.lt k e).2⟩) hn1s (fun k e => (hgvl k e).2) (fun k e => (havl k e).2) (fun xs' h' => ?_) hG10 (fun k e => ?_)
                    · rw [own_unique h' hrow]; exact hO10
                    · cases e
                      exact hg10
                  have hA11 := hA10.put 1 (.slice (some ⟨g2, 0, none⟩) (R.gates.length + 1) cap2) (fun cs h => h.setGat _ (R.gates ++ [⟨(vn : Int), (K : Int), l⟩]))
                  have hr11 : w10.grownBy (w10.setCell ⟨r, 1, none⟩ (.slice (some ⟨g2, 0, none⟩) (R.gates.length + 1) cap2)) (some r) := grown_setCell w10 ⟨r, 1, none⟩ _
                  have hGA11 := hGA10.keep hr11.size (fun k hk hk2 => hr11.block k hk2 (by intro e; injection e with e; have := hR.lt; omega))
                  have hPre11 := hPre9.keep (fun k hk hk2 => (hr11.block k (by have := hG10.size; omega) (by intro e; injection e with e; have := hR.lt; omega)).trans (hG10.block k (by omega) (fun e => by have := (hgvl k e.symm).1; omega)))
                  have hF11 := (hF9.grown (by have := hR.size; omega) hG10 (fun k e => .inr (by have := (hgvl k e).1; omega))).grown (by have := hR.size; have := hG10.size; omega) hr11 (fun k e => by cases e; exact .inl rfl)
                  have hs11 : wL.heap.size ≤ (w10.setCell ⟨r, 1, none⟩ (.slice (some ⟨g2, 0, none⟩) (R.gates.length + 1) cap2)).heap.size := Nat.le_trans (Nat.le_trans hs9 hG10.size) hr11.size
                  clear c10 f10 cgA cg9 hrow hGA9 hPre9 hA9 hA10 hO10 hG10 hGA10 SK hHeld HSW HSW4 HSW5 hF9 hr11
                  generalize (w10.setCell ⟨r, 1, none⟩ (.slice (some ⟨g2, 0, none⟩) (R.gates.length + 1) cap2)) = w11 at *
                  have ca := hA11.cAt
                  have hAts := hGA11.ats
                  have hb8 : (R.at_.length + 1) * 8 ≤ 140737488355328 := by have := hR.ok.al; have := HGL.out; omega
                  have hn111 : n1 ≤ w11.heap.size := by omega
                  go_wp2_with (first | (at_builtin; refine append_one n1 rfl _ _ 48 3 (.int .i64 0) 1 8 rfl Tryz.underlying48 info3 rfl (by decide) (by decide) av R.at_.length (nums (natI R.at_)) #[.int .i64 (no : Int)] rfl rfl rfl (by intro u hu; simp at hu; subst hu; rfl) hAts hn111 hb8 ?_; intro g3 cap3 w12 hO12 hG12 hg12 hbg12 hlt12; have hA12 := hA11.grown hG12 (fun e => by have := havl r e; have := hR.lt; omega); have ca12 := hA12.cAt; have fa12 := hA12.free 65544) | fail)
                  have hGA12 := hGA11.pushA no hO12 hG12 (fun k e => by cases e; exact hg12)
                  have hA13 := hA12.put 65544 (.slice (some ⟨g3, 0, none⟩) (R.at_.length + 1) cap3) (fun cs h => h.setAt _ (R.at_ ++ [no]))
                  have hr13 : w12.grownBy (w12.setCell ⟨r, 65544, none⟩ (.slice (some ⟨g3, 0, none⟩) (R.at_.length + 1) cap3)) (some r) := grown_setCell w12 ⟨r, 65544, none⟩ _
                  have hGA13 := hGA12.keep hr13.size (fun k hk hk2 => hr13.block k hk2 (by intro e; injection e with e; have := hR.lt; omega))
                  have hPre13 := hPre11.keep (fun k hk hk2 => (hr13.block k (by have := hG12.size; omega) (by intro e; injection e with e; have := hR.lt; omega)).trans (hG12.block k (by omega) (fun e => by have := (havl k e.symm).1; omega)))
                  have hF13 := (hF11.grown (by have := hR.size; omega) hG12 (fun k e => .inr (by have := (havl k e).1; omega))).grown (by have := hR.size; have := hG12.size; omega) hr13 (fun k e => by cases e; exact .inl rfl)
                  have hs13 : wL.heap.size ≤ (w12.setCell ⟨r, 65544, none⟩ (.slice (some ⟨g3, 0, none⟩) (R.at_.length + 1) cap3)).heap.size := Nat.le_trans (Nat.le_trans hs11 hG12.size) hr13.size
                  go_ret
                  rw [HP.out]
                  refine ⟨rfl, hF13, fun _ => ⟨hR.nine, hR.lt, Nat.le_trans hR.size hs13, HOK.out, pv, _, _, hA13, .inr ⟨HD.out, n1, hn01, Nat.le_trans hn1s hs13, hPre13, hGA13⟩⟩⟩
                · go_simp
                  refine hKc.out _ _ (HSW.out _ (((Below.refl _ w9).alloc (Nat.le_refl _) _).drew)) (fun hHeld => ?_)
                  clear hKc Kc
                  try simp only [Act.put, List.setIfInBounds_toArray, List.set_cons_zero, List.set_cons_succ]
                  refine wpAnyH_ready (rs := [5]) (by kernel_rfl) (by simp) ?_
                  refine AllReadyH.cons rfl (fun Kc hKc => ?_) AllReadyH.nil
                  go_simp
                  refine hKc.out _ _ hHeld (fun hHeld => ?_)
                  clear hKc Kc
                  try simp only [Act.put, List.setIfInBounds_toArray, List.set_cons_zero, List.set_cons_succ]
                  refine wpAnyH_ready (rs := [8]) (by kernel_rfl) (by simp) ?_
                  refine AllReadyH.cons rfl (fun Kc hKc => ?_) AllReadyH.nil
                  refine step_append_one (W := w9) n1 (by rfl) _ _ 38 88 (.agg #[.int .i64 0, .int .u8 0, .slice none 0 0]) 3 40 (by rfl) Tryz.underlying38 info70 rfl (by decide) (by decide) (.slice Ag R.gates.length cg) R.gates.length xs #[.int .i64 (vn : Int), .int .u8 (K : Int), .slice A l.length c] (by rfl) (by rfl) rfl (by intro u hu; simp at hu; rcases hu with rfl | rfl | rfl <;> rfl) hrow hn19 hb40 ?_
                  intro g2 cap2 w10 hO10 hG10 hg10 hbg hlt10
                  have SK := HSW4.out w10 hG10
                  have hA10 := hA9.grown hG10 (fun e => by have := hgvl r e; have := hR.lt; omega)
                  have c10 := hA10.cGat
                  have f10 := hA10.free 1
                  refine hKc.out _ _ SK (fun hHeld => ?_)
                  clear hKc Kc
                  try simp only [Act.put, List.setIfInBounds_toArray, List.set_cons_zero, List.set_cons_succ]
                  refine wpAnyH_take (i := 9) (v := ?v9b) rfl (by kernel_rfl) (by kernel_rfl) (by kernel_rfl) (fun _ _ _ h => h) (Or.inl ⟨by rfl, ?y9b⟩) hHeld ?_
                  case y9b => (intro w hSw; (try dsimp only at hSw); go_simp); (try with_reducible rfl)
                  try simp only [Act.put, List.setIfInBounds_toArray, List.set_cons_zero, List.set_cons_succ]
                  refine wpAnyH_take (i := 10) (v := ?v10b) rfl (by kernel_rfl) (by kernel_rfl) (by kernel_rfl) (fun _ _ _ h => h) (Or.inl ⟨by rfl, ?y10b⟩) hHeld ?_
                  case y10b => (intro w hSw; (try dsimp only at hSw); go_simp); (try with_reducible rfl)
                  try simp only [Act.put, List.setIfInBounds_toArray, List.set_cons_zero, List.set_cons_succ]
                  refine wpAnyH_take (i := 11) (v := ?v11b) rfl (by kernel_rfl) (by kernel_rfl) (by kernel_rfl) (fun _ _ _ h => h) (Or.inl ⟨by rfl, ?y11b⟩) hHeld ?_
                  case y11b => (intro w hSw; (try dsimp only at hSw); go_simp); (try with_reducible rfl)
                  try simp only [Act.put, List.setIfInBounds_toArray, List.set_cons_zero, List.set_cons_succ]
                  refine wpAnyH_ready (rs := [12]) (by kernel_rfl) (by simp) ?_
                  refine AllReadyH.cons rfl (fun Kc hKc => ?_) AllReadyH.nil
                  go_simp
                  refine hKc.out _ _ (HSW5.out _ _ (grown_setCell w10 ⟨r, 1, none⟩ _) SK) (fun hHeld => ?_)
                  clear hKc Kc
                  try simp only [Act.put, List.setIfInBounds_toArray, List.set_cons_zero, List.set_cons_succ]
                  refine wpAnyH_done (by kernel_rfl) ?_ _
                  have hGA10 : GA w10 n1 (.slice (some ⟨g2, 0, none⟩) (R.gates.length + 1) cap2) av (R.gates ++ [⟨(vn : Int), (K : Int), l⟩]) R.at_ := by
                    refine hGA9.pushG (n := wL.heap.size) ⟨⟨by simp only []; omega, by simp only []; omega⟩, by simp only []; omega, by simp only []; omega⟩ (ints_of_own hO9 (fun x hx => by have := hsm x hx; exact ⟨by omega, by omega⟩) (by omega)) (fun k e => ⟨by have := (hO9.lt k e).1; omega, (hO9.lt k e).2⟩) hn1s (fun k e => (hgvl k e).2) (fun k e => (havl k e).2) (fun xs' h' => ?_) hG10 (fun k e => ?_)
                    · rw [own_unique h' hrow]; exact hO10
                    · cases e
                      exact hg10
                  have hA11 := hA10.put 1 (.slice (some ⟨g2, 0, none⟩) (R.gates.length + 1) cap2) (fun cs h => h.setGat _ (R.gates ++ [⟨(vn : Int), (K : Int), l⟩]))
                  have hr11 : w10.grownBy (w10.setCell ⟨r, 1, none⟩ (.slice (some ⟨g2, 0, none⟩) (R.gates.length + 1) cap2)) (some r) := grown_setCell w10 ⟨r, 1, none⟩ _
                  have hGA11 := hGA10.keep hr11.size (fun k hk hk2 => hr11.block k hk2 (by intro e; injection e with e; have := hR.lt; omega))
                  have hPre11 := hPre9.keep (fun k hk hk2 => (hr11.block k (by have := hG10.size; omega) (by intro e; injection e with e; have := hR.lt; omega)).trans (hG10.block k (by omega) (fun e => by have := (hgvl k e.symm).1; omega)))
                  have hF11 := (hF9.grown (by have := hR.size; omega) hG10 (fun k e => .inr (by have := (hgvl k e).1; omega))).grown (by have := hR.size; have := hG10.size; omega) hr11 (fun k e => by cases e; exact .inl rfl)
                  have hs11 : wL.heap.size ≤ (w10.setCell ⟨r, 1, none⟩ (.slice (some ⟨g2, 0, none⟩) (R.gates.length + 1) cap2)).heap.size := Nat.le_trans (Nat.le_trans hs9 hG10.size) hr11.size
                  clear c10 f10 cgA cg9 hrow hGA9 hPre9 hA9 hA10 hO10 hG10 hGA10 SK hHeld HSW HSW4 HSW5 hF9 hr11
                  generalize (w10.setCell ⟨r, 1, none⟩ (.slice (some ⟨g2, 0, none⟩) (R.gates.length + 1) cap2)) = w11 at *
                  have ca := hA11.cAt
                  have hAts := hGA11.ats
                  have hb8 : (R.at_.length + 1) * 8 ≤ 140737488355328 := by have := hR.ok.al; have := HGL.out; omega
                  have hn111 : n1 ≤ w11.heap.size := by omega
                  go_wp2_with (first | (at_builtin; refine append_one n1 rfl _ _ 48 3 (.int .i64 0) 1 8 rfl Tryz.underlying48 info3 rfl (by decide) (by decide) av R.at_.length (nums (natI R.at_)) #[.int .i64 (no : Int)] rfl rfl rfl (by intro u hu; simp at hu; subst hu; rfl) hAts hn111 hb8 ?_; intro g3 cap3 w12 hO12 hG12 hg12 hbg12 hlt12; have hA12 := hA11.grown hG12 (fun e => by have := havl r e; have := hR.lt; omega); have ca12 := hA12.cAt; have fa12 := hA12.free 65544) | fail)
                  have hGA12 := hGA11.pushA no hO12 hG12 (fun k e => by cases e; exact hg12)
                  have hA13 := hA12.put 65544 (.slice (some ⟨g3, 0, none⟩) (R.at_.length + 1) cap3) (fun cs h => h.setAt _ (R.at_ ++ [no]))
                  have hr13 : w12.grownBy (w12.setCell ⟨r, 65544, none⟩ (.slice (some ⟨g3, 0, none⟩) (R.at_.length + 1) cap3)) (some r) := grown_setCell w12 ⟨r, 65544, none⟩ _
                  have hGA13 := hGA12.keep hr13.size (fun k hk hk2 => hr13.block k hk2 (by intro e; injection e with e; have := hR.lt; omega))
                  have hPre13 := hPre11.keep (fun k hk hk2 => (hr13.block k (by have := hG12.size; omega) (by intro e; injection e with e; have := hR.lt; omega)).trans (hG12.block k (by omega) (fun e => by have := (havl k e.symm).1; omega)))
                  have hF13 := (hF11.grown (by have := hR.size; omega) hG12 (fun k e => .inr (by have := (havl k e).1; omega))).grown (by have := hR.size; have := hG12.size; omega) hr13 (fun k e => by cases e; exact .inl rfl)
                  have hs13 : wL.heap.size ≤ (w12.setCell ⟨r, 65544, none⟩ (.slice (some ⟨g3, 0, none⟩) (R.at_.length + 1) cap3)).heap.size := Nat.le_trans (Nat.le_trans hs11 hG12.size) hr13.size
                  go_ret
                  rw [HP.out]
                  refine ⟨rfl, hF13, fun _ => ⟨hR.nine, hR.lt, Nat.le_trans hR.size hs13, HOK.out, pv, _, _, hA13, .inr ⟨HD.out, n1, hn01, Nat.le_trans hn1s hs13, hPre13, hGA13⟩⟩⟩
          · have e3 : ((K : Int) == 3) = true := by rw [beq_iff_eq]; omega
            have a2 : ((l.length : Int) != 2) = true := by rw [bne_iff_ne]; omega
            have HARY : Hid ((K = 3 ∧ l.length ≠ 2) ∨ (K = 4 ∧ l.length ≠ 3)) := hid (by omega)
            clear hk3 ha
            have HP : addL R no (gateL s) = (2, R) := by
              rw [HL2.out]
              unfold addL
              simp only []
              rw [if_neg (by rw [HD.out]; simp), if_pos HARY.out]
            have HPH := hid HP
            clear HP
            go_wp2_with fail
            go_ret
            rw [HPH.out]
            exact ⟨rfl, hW7.1, fun h => absurd h (by simp)⟩
        · by_cases hk4 : K = 4
          · by_cases ha : l.length = 3
            · have e3 : ((K : Int) == 3) = false := by rw [beq_eq_false_iff_ne]; omega
              have e4 : ((K : Int) == 4) = true := by rw [beq_iff_eq]; omega
              have a3 : ((l.length : Int) != 3) = false := by rw [bne_eq_false_iff_eq]; omega
              have HAR : Hid (¬ ((K = 3 ∧ l.length ≠ 2) ∨ (K = 4 ∧ l.length ≠ 3))) := hid (by omega)
              clear hk3 hk4 ha
              cases hsn : R.seen vn with
              | true =>
                have HP : addL R no (gateL s) = (7, R) := by
                  rw [HL2.out]
                  unfold addL
                  simp only [Int.toNat_natCast]
                  rw [if_neg (by rw [HD.out]; simp), if_neg HAR.out, if_pos hsn]
                have HPH := hid HP
                rw [hsn] at CD
                clear HP hsn
                go_wp2_with (first | (go_at_call 128; refine CD.mono ?_; rintro e w8 ⟨rfl, hA8, g78⟩) | fail)
                go_ret
                rw [HPH.out]
                exact ⟨rfl, hW7.1.grown (Nat.le_trans hR.size hW7.2.size) g78 (fun k e => by cases e; exact .inl rfl), fun h => absurd h (by simp)⟩
              | false =>
                rw [hsn] at CD
                have HSN := hid hsn
                clear hsn
                go_wp2_with fail
                go_at_call 128
                refine CD.mono ?_
                rintro e w8 ⟨rfl, hA8, g78⟩
                have G8 := row_grown G7 g78 (by intro e; injection e with e; exact hqr e.symm)
                have hF8 : Fr n0 r w w8 := hW7.1.grown (Nat.le_trans hR.size hW7.2.size) g78 (fun k e => by cases e; exact .inl rfl)
                clear CD c7o c7d c70 c71 c72 c61 f61 c52 f52 hA7 h7
                have cl8 := hA8.cLits
                simp only [] at cl8
                have fl8 := hA8.free 65541
                have hA9 := hA8.put 65541 (.int .i64 ((R.lits : Int) + (l.length : Int))) (fun cs h => by rw [← Int.natCast_add]; exact h.setLits _)
                have cl9 := hA9.cLits
                simp only [Int.natCast_add] at cl9
                by_cases hov : 200000 < R.lits + l.length
                · have HP : addL R no (gateL s) = (3, R) := by
                    rw [HL2.out]
                    unfold addL
                    simp only [Int.toNat_natCast]
                    rw [if_neg (by rw [HD.out]; simp), if_neg HAR.out, if_neg (by rw [HSN.out]; simp), if_pos hov]
                  have HPH := hid HP
                  have hov2 : (200000 : Int) < (R.lits : Int) + (l.length : Int) := by omega
                  clear HP hov
                  go_wp2_with fail
                  go_ret
                  rw [HPH.out]
                  exact ⟨rfl, hF8.grown (by have := hF8.size; have := hR.size; have := hB.size; omega) (grown_setCell w8 ⟨r, 65541, none⟩ _) (fun k e => by injection e with e; exact .inl e.symm), fun h => absurd h (by simp)⟩
                · have hov2 : decide ((200000 : Int) < (R.lits : Int) + (l.length : Int)) = false := decide_eq_false (by omega)
                  have HOV := hid hov
                  have HP := hid (show addL R no (gateL s) = (0, { R with seen := upd R.seen vn true, lits := R.lits + l.length, gates := R.gates ++ [⟨(vn : Int), (K : Int), l⟩], at_ := R.at_ ++ [no] }) by
                    rw [HL2.out]
                    unfold addL
                    simp only [Int.toNat_natCast]
                    rw [if_neg (by rw [HD.out]; simp), if_neg HAR.out, if_neg (by rw [HSN.out]; simp), if_neg hov])
                  have HOK : Hid (RSok { R with seen := upd R.seen vn true, lits := R.lits + l.length, gates := R.gates ++ [⟨(vn : Int), (K : Int), l⟩], at_ := R.at_ ++ [no] } (no + 1)) := by
                    have hk := hR.ok
                    refine hid ⟨hk.vars, hk.nv, by simp only []; omega, hk.pre, Nat.le_succ_of_le hk.prel, ?_, ?_, fun g hg' => ?_, hk.out⟩
                    · have := hk.gl; simp only [List.length_append, List.length_cons, List.length_nil]; omega
                    · have := hk.al; simp only [List.length_append, List.length_cons, List.length_nil]; omega
                    · rcases List.mem_append.1 hg' with hg' | hg'
                      · exact hk.gs g hg'
                      · rw [List.mem_singleton.1 hg']
                        exact ⟨⟨by simp only []; omega, by simp only []; omega⟩, ⟨by simp only []; omega, by simp only []; omega⟩, hsm⟩
                  clear hov
                  go_wp2_with fail
                  rcases hph with ⟨h0, _⟩ | ⟨-, n1, hn01, hn1s, hPre, hGA⟩
                  · rw [HD.out] at h0; cases h0
                  have hBW := hW7.2
                  have g79 : ((w5.setCell ⟨q, 2, none⟩ (.slice A l.length c)).setCell ⟨q, 1, none⟩ (.int .u8 (K : Int))).grownBy (w8.setCell ⟨r, 65541, none⟩ (.int .i64 ((R.lits : Int) + (l.length : Int)))) (some r) := g78.trans (grown_setCell w8 ⟨r, 65541, none⟩ _)
                  have G9 := row_grown G7 g79 (by intro e; injection e with e; exact hqr e.symm)
                  have hF9 : Fr n0 r w (w8.setCell ⟨r, 65541, none⟩ (.int .i64 ((R.lits : Int) + (l.length : Int)))) := hW7.1.grown (Nat.le_trans hR.size hBW.size) g79 (fun k e => by cases e; exact .inl rfl)
                  have hO7 : ((w5.setCell ⟨q, 2, none⟩ (.slice A l.length c)).setCell ⟨q, 1, none⟩ (.int .u8 (K : Int))).ownsRow w4.heap.size 3 1 (.slice A l.length c) l.length (nums l) := own_far hO gW hq4
                  have hr4 : r < w4.heap.size := by have := hR.lt; have := hR.size; omega
                  have hO9 := own_far hO7 g79 hr4
                  have hK9 : ∀ k, n0 ≤ k → k < wL.heap.size → (w8.setCell ⟨r, 65541, none⟩ (.int .i64 ((R.lits : Int) + (l.length : Int)))).heap[k]? = wL.heap[k]? := fun k hk hk2 =>
                    (g79.block k (by have := hBW.size; omega) (by intro e; injection e with e; have := hR.lt; omega)).trans (hBW.block k hk2)
                  have hs9 : wL.heap.size ≤ (w8.setCell ⟨r, 65541, none⟩ (.int .i64 ((R.lits : Int) + (l.length : Int)))).heap.size := Nat.le_trans hBW.size g79.size
                  generalize (w8.setCell ⟨r, 65541, none⟩ (.int .i64 ((R.lits : Int) + (l.length : Int)))) = w9 at *
                  have hGA9 : GA w9 n1 gv av R.gates R.at_ := hGA.keep hs9 (fun k hk hk2 => hK9 k (by omega) hk2)
                  have hPre9 : PreAt w9 n0 n1 pv R.pre := hPre.keep (fun k hk hk2 => hK9 k hk (by omega))
                  obtain ⟨xs, hrow⟩ := hGA9.stay.row
                  obtain ⟨Ag, cg, rfl, -, -⟩ := hGA9.stay.form
                  have hgvl : ∀ k, (Value.slice Ag R.gates.length cg).ownBlock = some k → n1 ≤ k ∧ k < wL.heap.size := fun k e => by
                    obtain ⟨xs', h'⟩ := hGA.stay.row
                    exact h'.lt k e
                  have havl : ∀ k, av.ownBlock = some k → n1 ≤ k ∧ k < wL.heap.size := fun k e => hGA.ats.lt k e
                  have hgl : R.gates.length ≤ 4194305 := Nat.le_trans hR.ok.gl hno
                  have HGL := hid hgl
                  have hb40 : (R.gates.length + 1) * 40 ≤ 140737488355328 := by omega
                  clear hgl hPre hK9 g79 g78 gW G7 G8 cl8 fl8 cl9 hO7 hO hBW hW7 hGA
                  have hn19 : n1 ≤ w9.heap.size := by omega
                  have cg9 := hA9.cGat
                  have s0 := cell_row G9 (j := 0) rfl
                  have s1' := cell_row G9 (j := 1) rfl
                  have s2' := cell_row G9 (j := 2) rfl
                  have HSW : Hid (∀ w', Below w9.heap.size w9 w' → w'.cell? ⟨q, 0, none⟩ = some (.int .i64 (vn : Int)) ∧ w'.cell? ⟨q, 1, none⟩ = some (.int .u8 (K : Int)) ∧ w'.cell? ⟨q, 2, none⟩ = some (.slice A l.length c)) := hid fun W hW => ⟨keeps_below hW _ _ s0, keeps_below hW _ _ s1', keeps_below hW _ _ s2'⟩
                  have HSW4 : Hid (∀ w', w9.grownBy w' (Value.slice Ag R.gates.length cg).ownBlock → w'.cell? ⟨q, 0, none⟩ = some (.int .i64 (vn : Int)) ∧ w'.cell? ⟨q, 1, none⟩ = some (.int .u8 (K : Int)) ∧ w'.cell? ⟨q, 2, none⟩ = some (.slice A l.length c)) := hid fun W hW =>
                    ⟨hW.cell s0 (fun e => by have := (hgvl q e.symm).2; omega), hW.cell s1' (fun e => by have := (hgvl q e.symm).2; omega), hW.cell s2' (fun e => by have := (hgvl q e.symm).2; omega)⟩
                  have HSW5 : Hid (∀ (W w' : World), W.grownBy w' (some r) → (W.cell? ⟨q, 0, none⟩ = some (.int .i64 (vn : Int)) ∧ W.cell? ⟨q, 1, none⟩ = some (.int .u8 (K : Int)) ∧ W.cell? ⟨q, 2, none⟩ = some (.slice A l.length c)) → (w'.cell? ⟨q, 0, none⟩ = some (.int .i64 (vn : Int)) ∧ w'.cell? ⟨q, 1, none⟩ = some (.int .u8 (K : Int)) ∧ w'.cell? ⟨q, 2, none⟩ = some (.slice A l.length c))) := hid fun W W' hW ⟨h1, h2, h3⟩ =>
                    ⟨hW.cell h1 (fun e => by injection e with e; exact hqr e), hW.cell h2 (fun e => by injection e with e; exact hqr e), hW.cell h3 (fun e => by injection e with e; exact hqr e)⟩
                  have cgA : (w9.alloc (.cells #[.int .i64 (vn : Int), .int .u8 (K : Int), .slice A l.length c] 88)).cell? ⟨r, 1, none⟩ = some (.slice Ag R.gates.length cg) := keeps_below ((Below.refl _ w9).alloc (Nat.le_refl _) _) _ _ cg9
                  clear s0 s1' s2'
                  refine wp_region_held_drew (S := fun w' => w'.cell? ⟨q, 0, none⟩ = some (.int .i64 (vn : Int)) ∧ w'.cell? ⟨q, 1, none⟩ = some (.int .u8 (K : Int)) ∧ w'.cell? ⟨q, 2, none⟩ = some (.slice A l.length c)) (by kernel_rfl) (HSW.out _ ((Below.refl _ w9).drew)) (fun hHeld => ?_)
                  refine wpAnyH_take (i := 0) (v := ?v0) rfl (by kernel_rfl) (by kernel_rfl) (by kernel_rfl) (fun _ _ _ h => h) (Or.inl ⟨by rfl, ?y0⟩) hHeld ?_
                  case y0 => (intro w hSw; (try dsimp only at hSw); go_simp); (try with_reducible rfl)
                  try simp only [Act.put, List.setIfInBounds_toArray, List.set_cons_zero, List.set_cons_succ]
                  refine wpAnyH_take (i := 1) (v := ?v1) rfl (by kernel_rfl) (by kernel_rfl) (by kernel_rfl) (fun _ _ _ h => h) (Or.inl ⟨by rfl, ?y1⟩) hHeld ?_
                  case y1 => (intro w hSw; (try dsimp only at hSw); go_simp); (try with_reducible rfl)
                  try simp only [Act.put, List.setIfInBounds_toArray, List.set_cons_zero, List.set_cons_succ]
                  refine wpAnyH_take (i := 2) (v := ?v2) rfl (by kernel_rfl) (by kernel_rfl) (by kernel_rfl) (fun _ _ _ h => h) (Or.inl ⟨by rfl, ?y2⟩) hHeld ?_
                  case y2 => (intro w hSw; (try dsimp only at hSw); go_simp); (try with_reducible rfl)
                  try simp only [Act.put, List.setIfInBounds_toArray, List.set_cons_zero, List.set_cons_succ]
                  refine wpAnyH_take (i := 3) (v := ?v3) rfl (by kernel_rfl) (by kernel_rfl) (by kernel_rfl) (fun _ _ _ h => h) (Or.inl ⟨by rfl, ?y3⟩) hHeld ?_
                  case y3 => (intro w hSw; (try dsimp only at hSw); go_simp); (try with_reducible rfl)
                  try simp only [Act.put, List.setIfInBounds_toArray, List.set_cons_zero, List.set_cons_succ]
                  refine wpAnyH_take (i := 4) (v := ?v4) rfl (by kernel_rfl) (by kernel_rfl) (by kernel_rfl) (fun _ _ _ h => h) (Or.inl ⟨by rfl, ?y4⟩) hHeld ?_
                  case y4 => (intro w hSw; (try dsimp only at hSw); go_simp); (try with_reducible rfl)
                  try simp only [Act.put, List.setIfInBounds_toArray, List.set_cons_zero, List.set_cons_succ]
                  refine wpAnyH_take (i := 6) (v := ?v6) rfl (by kernel_rfl) (by kernel_rfl) (by kernel_rfl) (fun _ _ _ h => h) (Or.inl ⟨by rfl, ?y6⟩) hHeld ?_
                  case y6 => (intro w hSw; (try dsimp only at hSw); go_simp); (try with_reducible rfl)
                  try simp only [Act.put, List.setIfInBounds_toArray, List.set_cons_zero, List.set_cons_succ]
                  refine wpAnyH_ready (rs := [5, 7]) (by kernel_rfl) (by simp) ?_
                  refine AllReadyH.cons rfl (fun Kc hKc => ?_) (AllReadyH.cons rfl (fun Kc hKc => ?_) AllReadyH.nil)
                  · go_simp
                    refine hKc.out _ _ hHeld (fun hHeld => ?_)
                    clear hKc Kc
                    try simp only [Act.put, List.setIfInBounds_toArray, List.set_cons_zero, List.set_cons_succ]
                    refine wpAnyH_ready (rs := [7]) (by kernel_rfl) (by simp) ?_
                    refine AllReadyH.cons rfl (fun Kc hKc => ?_) AllReadyH.nil
                    go_simp
                    refine hKc.out _ _ (HSW.out _ (((Below.refl _ w9).alloc (Nat.le_refl _) _).drew)) (fun hHeld => ?_)
                    clear hKc Kc
                    try simp only [Act.put, List.setIfInBounds_toArray, List.set_cons_zero, List.set_cons_succ]
                    refine wpAnyH_ready (rs := [8]) (by kernel_rfl) (by simp) ?_
                    refine AllReadyH.cons rfl (fun Kc hKc => ?_) AllReadyH.nil
                    refine step_append_one (W := w9) n1 (by rfl) _ _ 38 88 (.agg #[.int .i64 0, .int .u8 0, .slice none 0 0]) 3 40 (by rfl) Tryz.underlying38 info70 rfl (by decide) (by decide) (.slice Ag R.gates.length cg) R.gates.length xs #[.int .i64 (vn : Int), .int .u8 (K : Int), .slice A l.length c] (by rfl) (by rfl) rfl (by intro u hu; simp at hu; rcases hu with rfl | rfl | rfl <;> rfl) hrow hn19 hb40 ?_
                    intro g2 cap2 w10 hO10 hG10 hg10 hbg hlt10
                    have SK := HSW4.out w10 hG10
                    have hA10 := hA9.grown hG10 (fun e => by have := hgvl r e; have := hR.lt; omega)
                    have c10 := hA10.cGat
                    have f10 := hA10.free 1
                    refine hKc.out _ _ SK (fun hHeld => ?_)
                    clear hKc Kc
                    try simp only [Act.put, List.setIfInBounds_toArray, List.set_cons_zero, List.set_cons_succ]
                    refine wpAnyH_take (i := 9) (v := ?v9a) rfl (by kernel_rfl) (by kernel_rfl) (by kernel_rfl) (fun _ _ _ h => h) (Or.inl ⟨by rfl, ?y9a⟩) hHeld ?_
                    case y9a => (intro w hSw; (try dsimp only at hSw); go_simp); (try with_reducible rfl)
                    try simp only [Act.put, List.setIfInBounds_toArray, List.set_cons_zero, List.set_cons_succ]
                    refine wpAnyH_take (i := 10) (v := ?v10a) rfl (by kernel_rfl) (by kernel_rfl) (by kernel_rfl) (fun _ _ _ h => h) (Or.inl ⟨by rfl, ?y10a⟩) hHeld ?_
                    case y10a => (intro w hSw; (try dsimp only at hSw); go_simp); (try with_reducible rfl)
                    try simp only [Act.put, List.setIfInBounds_toArray, List.set_cons_zero, List.set_cons_succ]
                    refine wpAnyH_take (i := 11) (v := ?v11a) rfl (by kernel_rfl) (by kernel_rfl) (by kernel_rfl) (fun _ _ _ h => h) (Or.inl ⟨by rfl, ?y11a⟩) hHeld ?_
                    case y11a => (intro w hSw; (try dsimp only at hSw); go_simp); (try with_reducible rfl)
                    try simp only [Act.put, List.setIfInBounds_toArray, List.set_cons_zero, List.set_cons_succ]
                    refine wpAnyH_ready (rs := [12]) (by kernel_rfl) (by simp) ?_
                    refine AllReadyH.cons rfl (fun Kc hKc => ?_) AllReadyH.nil
                    go_simp
                    refine hKc.out _ _ (HSW5.out _ _ (grown_setCell w10 ⟨r, 1, none⟩ _) SK) (fun hHeld => ?_)
                    clear hKc Kc
                    try simp only [Act.put, List.setIfInBounds_toArray, List.set_cons_zero, List.set_cons_succ]
                    refine wpAnyH_done (by kernel_rfl) ?_ _
                    have hGA10 : GA w10 n1 (.slice (some ⟨g2, 0, none⟩) (R.gates.length + 1) cap2) av (R.gates ++ [⟨(vn : Int), (K : Int), l⟩]) R.at_ := by
                      refine hGA9.pushG (n := wL.heap.size) ⟨⟨by simp only []; omega, by simp only []; omega⟩, by simp only []; omega, by simp only []; omega⟩ (ints_of_own hO9 (fun x hx => by have := hsm x hx; exact ⟨by omega, by omega⟩) (by omega)) (fun k e => ⟨by have := (hO9.lt k e).1; omega, (hO9.lt k e).2⟩) hn1s (fun k e => (hgvl k e).2) (fun k e => (havl k e).2) (fun xs' h' => ?_) hG10 (fun k e => ?_)
                      · rw [own_unique h' hrow]; exact hO10
                      · cases e
                        exact hg10
                    have hA11 := hA10.put 1 (.slice (some ⟨g2, 0, none⟩) (R.gates.length + 1) cap2) (fun cs h => h.setGat _ (R.gates ++ [⟨(vn : Int), (K : Int), l⟩]))
                    have hr11 : w10.grownBy (w10.setCell ⟨r, 1, none⟩ (.slice (some ⟨g2, 0, none⟩) (R.gates.length + 1) cap2)) (some r) := grown_setCell w10 ⟨r, 1, none⟩ _
                    have hGA11 := hGA10.keep hr11.size (fun k hk hk2 => hr11.block k hk2 (by intro e; injection e with e; have := hR.lt; omega))
                    have hPre11 := hPre9.keep (fun k hk hk2 => (hr11.block k (by have := hG10.size; omega) (by intro e; injection e with e; have := hR.lt; omega)).trans (hG10.block k (by omega) (fun e => by have := (hgvl k e.symm).1; omega)))
                    have hF11 := (hF9.grown (by have := hR.size; omega) hG10 (fun k e => .inr (by have := (hgvl k e).1; omega))).grown (by have := hR.size; have := hG10.size; omega) hr11 (fun k e => by cases e; exact .inl rfl)
                    have hs11 : wL.heap.size ≤ (w10.setCell ⟨r, 1, none⟩ (.slice (some ⟨g2, 0, none⟩) (R.gates.length + 1) cap2)).heap.size := Nat.le_trans (Nat.le_trans hs9 hG10.size) hr11.size
                    clear c10 f10 cgA cg9 hrow hGA9 hPre9 hA9 hA10 hO10 hG10 hGA10 SK hHeld HSW HSW4 HSW5 hF9 hr11
                    generalize (w10.setCell ⟨r, 1, none⟩ (.slice (some ⟨g2, 0, none⟩) (R.gates.length + 1) cap2)) = w11 at *
                    have ca := hA11.cAt
                    have hAts := hGA11.ats
                    have hb8 : (R.at_.length + 1) * 8 ≤ 140737488355328 := by have := hR.ok.al; have := HGL.out; omega
                    have hn111 : n1 ≤ w11.heap.size := by omega
                    go_wp2_with (first | (at_builtin; refine append_one n1 rfl _ _ 48 3 (.int .i64 0) 1 8 rfl Tryz.underlying48 info3 rfl (by decide) (by decide) av R.at_.length (nums (natI R.at_)) #[.int .i64 (no : Int)] rfl rfl rfl (by intro u hu; simp at hu; subst hu; rfl) hAts hn111 hb8 ?_; intro g3 cap3 w12 hO12 hG12 hg12 hbg12 hlt12; have hA12 := hA11.grown hG12 (fun e => by have := havl r e; have := hR.lt; omega); have ca12 := hA12.cAt; have fa12 := hA12.free 65544) | fail)
                    have hGA12 := hGA11.pushA no hO12 hG12 (fun k e => by cases e; exact hg12)
                    have hA13 := hA12.put 65544 (.slice (some ⟨g3, 0, none⟩) (R.at_.length + 1) cap3) (fun cs h => h.setAt _ (R.at_ ++ [no]))
                    have hr13 : w12.grownBy (w12.setCell ⟨r, 65544, none⟩ (.slice (some ⟨g3, 0, none⟩) (R.at_.length + 1) cap3)) (some r) := grown_setCell w12 ⟨r, 65544, none⟩ _
                    have hGA13 := hGA12.keep hr13.size (fun k hk hk2 => hr13.block k hk2 (by intro e; injection e with e; have := hR.lt; omega))
                    have hPre13 := hPre11.keep (fun k hk hk2 => (hr13.block k (by have := hG12.size; omega) (by intro e; injection e with e; have := hR.lt; omega)).trans (hG12.block k (by omega) (fun e => by have := (havl k e.symm).1; omega)))
                    have hF13 := (hF11.grown (by have := hR.size; omega) hG12 (fun k e => .inr (by have := (havl k e).1; omega))).grown (by have := hR.size; have := hG12.size; omega) hr13 (fun k e => by cases e; exact .inl rfl)
                    have hs13 : wL.heap.size ≤ (w12.setCell ⟨r, 65544, none⟩ (.slice (some ⟨g3, 0, none⟩) (R.at_.length + 1) cap3)).heap.size := Nat.le_trans (Nat.le_trans hs11 hG12.size) hr13.size
                    go_ret
                    rw [HP.out]
                    refine ⟨rfl, hF13, fun _ => ⟨hR.nine, hR.lt, Nat.le_trans hR.size hs13, HOK.out, pv, _, _, hA13, .inr ⟨HD.out, n1, hn01, Nat.le_trans hn1s hs13, hPre13, hGA13⟩⟩⟩
                  · go_simp
                    refine hKc.out _ _ (HSW.out _ (((Below.refl _ w9).alloc (Nat.le_refl _) _).drew)) (fun hHeld => ?_)
                    clear hKc Kc
                    try simp only [Act.put, List.setIfInBounds_toArray, List.set_cons_zero, List.set_cons_succ]
                    refine wpAnyH_ready (rs := [5]) (by kernel_rfl) (by simp) ?_
                    refine AllReadyH.cons rfl (fun Kc hKc => ?_) AllReadyH.nil
                    go_simp
                    refine hKc.out _ _ hHeld (fun hHeld => ?_)
                    clear hKc Kc
                    try simp only [Act.put, List.setIfInBounds_toArray, List.set_cons_zero, List.set_cons_succ]
                    refine wpAnyH_ready (rs := [8]) (by kernel_rfl) (by simp) ?_
                    refine AllReadyH.cons rfl (fun Kc hKc => ?_) AllReadyH.nil
                    refine step_append_one (W := w9) n1 (by rfl) _ _ 38 88 (.agg #[.int .i64 0, .int .u8 0, .slice none 0 0]) 3 40 (by rfl) Tryz.underlying38 info70 rfl (by decide) (by decide) (.slice Ag R.gates.length cg) R.gates.length xs #[.int .i64 (vn : Int), .int .u8 (K : Int), .slice A l.length c] (by rfl) (by rfl) rfl (by intro u hu; simp at hu; rcases hu with rfl | rfl | rfl <;> rfl) hrow hn19 hb40 ?_
                    intro g2 cap2 w10 hO10 hG10 hg10 hbg hlt10
                    have SK := HSW4.out w10 hG10
                    have hA10 := hA9.grown hG10 (fun e => by have := hgvl r e; have := hR.lt; omega)
                    have c10 := hA10.cGat
                    have f10 := hA10.free 1
                    refine hKc.out _ _ SK (fun hHeld => ?_)
                    clear hKc Kc
                    try simp only [Act.put, List.setIfInBounds_toArray, List.set_cons_zero, List.set_cons_succ]
                    refine wpAnyH_take (i := 9) (v := ?v9b) rfl (by kernel_rfl) (by kernel_rfl) (by kernel_rfl) (fun _ _ _ h => h) (Or.inl ⟨by rfl, ?y9b⟩) hHeld ?_
                    case y9b => (intro w hSw; (try dsimp only at hSw); go_simp); (try with_reducible rfl)
                    try simp only [Act.put, List.setIfInBounds_toArray, List.set_cons_zero, List.set_cons_succ]
                    refine wpAnyH_take (i := 10) (v := ?v10b) rfl (by kernel_rfl) (by kernel_rfl) (by kernel_rfl) (fun _ _ _ h => h) (Or.inl ⟨by rfl, ?y10b⟩) hHeld ?_
                    case y10b => (intro w hSw; (try dsimp only at hSw); go_simp); (try with_reducible rfl)
                    try simp only [Act.put, List.setIfInBounds_toArray, List.set_cons_zero, List.set_cons_succ]
                    refine wpAnyH_take (i := 11) (v := ?v11b) rfl (by kernel_rfl) (by kernel_rfl) (by kernel_rfl) (fun _ _ _ h => h) (Or.inl ⟨by rfl, ?y11b⟩) hHeld ?_
                    case y11b => (intro w hSw; (try dsimp only at hSw); go_simp); (try with_reducible rfl)
                    try simp only [Act.put, List.setIfInBounds_toArray, List.set_cons_zero, List.set_cons_succ]
                    refine wpAnyH_ready (rs := [12]) (by kernel_rfl) (by simp) ?_
                    refine AllReadyH.cons rfl (fun Kc hKc => ?_) AllReadyH.nil
                    go_simp
                    refine hKc.out _ _ (HSW5.out _ _ (grown_setCell w10 ⟨r, 1, none⟩ _) SK) (fun hHeld => ?_)
                    clear hKc Kc
                    try simp only [Act.put, List.setIfInBounds_toArray, List.set_cons_zero, List.set_cons_succ]
                    refine wpAnyH_done (by kernel_rfl) ?_ _
                    have hGA10 : GA w10 n1 (.slice (some ⟨g2, 0, none⟩) (R.gates.length + 1) cap2) av (R.gates ++ [⟨(vn : Int), (K : Int), l⟩]) R.at_ := by
                      refine hGA9.pushG (n := wL.heap.size) ⟨⟨by simp only []; omega, by simp only []; omega⟩, by simp only []; omega, by simp only []; omega⟩ (ints_of_own hO9 (fun x hx => by have := hsm x hx; exact ⟨by omega, by omega⟩) (by omega)) (fun k e => ⟨by have := (hO9.lt k e).1; omega, (hO9.lt k e).2⟩) hn1s (fun k e => (hgvl k e).2) (fun k e => (havl k e).2) (fun xs' h' => ?_) hG10 (fun k e => ?_)
                      · rw [own_unique h' hrow]; exact hO10
                      · cases e
                        exact hg10
                    have hA11 := hA10.put 1 (.slice (some ⟨g2, 0, none⟩) (R.gates.length + 1) cap2) (fun cs h => h.setGat _ (R.gates ++ [⟨(vn : Int), (K : Int), l⟩]))
                    have hr11 : w10.grownBy (w10.setCell ⟨r, 1, none⟩ (.slice (some ⟨g2, 0, none⟩) (R.gates.length + 1) cap2)) (some r) := grown_setCell w10 ⟨r, 1, none⟩ _
                    have hGA11 := hGA10.keep hr11.size (fun k hk hk2 => hr11.block k hk2 (by intro e; injection e with e; have := hR.lt; omega))
                    have hPre11 := hPre9.keep (fun k hk hk2 => (hr11.block k (by have := hG10.size; omega) (by intro e; injection e with e; have := hR.lt; omega)).trans (hG10.block k (by omega) (fun e => by have := (hgvl k e.symm).1; omega)))
                    have hF11 := (hF9.grown (by have := hR.size; omega) hG10 (fun k e => .inr (by have := (hgvl k e).1; omega))).grown (by have := hR.size; have := hG10.size; omega) hr11 (fun k e => by cases e; exact .inl rfl)
                    have hs11 : wL.heap.size ≤ (w10.setCell ⟨r, 1, none⟩ (.slice (some ⟨g2, 0, none⟩) (R.gates.length + 1) cap2)).heap.size := Nat.le_trans (Nat.le_trans hs9 hG10.size) hr11.size
                    clear c10 f10 cgA cg9 hrow hGA9 hPre9 hA9 hA10 hO10 hG10 hGA10 SK hHeld HSW HSW4 HSW5 hF9 hr11
                    generalize (w10.setCell ⟨r, 1, none⟩ (.slice (some ⟨g2, 0, none⟩) (R.gates.length + 1) cap2)) = w11 at *
                    have ca := hA11.cAt
                    have hAts := hGA11.ats
                    have hb8 : (R.at_.length + 1) * 8 ≤ 140737488355328 := by have := hR.ok.al; have := HGL.out; omega
                    have hn111 : n1 ≤ w11.heap.size := by omega
                    go_wp2_with (first | (at_builtin; refine append_one n1 rfl _ _ 48 3 (.int .i64 0) 1 8 rfl Tryz.underlying48 info3 rfl (by decide) (by decide) av R.at_.length (nums (natI R.at_)) #[.int .i64 (no : Int)] rfl rfl rfl (by intro u hu; simp at hu; subst hu; rfl) hAts hn111 hb8 ?_; intro g3 cap3 w12 hO12 hG12 hg12 hbg12 hlt12; have hA12 := hA11.grown hG12 (fun e => by have := havl r e; have := hR.lt; omega); have ca12 := hA12.cAt; have fa12 := hA12.free 65544) | fail)
                    have hGA12 := hGA11.pushA no hO12 hG12 (fun k e => by cases e; exact hg12)
                    have hA13 := hA12.put 65544 (.slice (some ⟨g3, 0, none⟩) (R.at_.length + 1) cap3) (fun cs h => h.setAt _ (R.at_ ++ [no]))
                    have hr13 : w12.grownBy (w12.setCell ⟨r, 65544, none⟩ (.slice (some ⟨g3, 0, none⟩) (R.at_.length + 1) cap3)) (some r) := grown_setCell w12 ⟨r, 65544, none⟩ _
                    have hGA13 := hGA12.keep hr13.size (fun k hk hk2 => hr13.block k hk2 (by intro e; injection e with e; have := hR.lt; omega))
                    have hPre13 := hPre11.keep (fun k hk hk2 => (hr13.block k (by have := hG12.size; omega) (by intro e; injection e with e; have := hR.lt; omega)).trans (hG12.block k (by omega) (fun e => by have := (havl k e.symm).1; omega)))
                    have hF13 := (hF11.grown (by have := hR.size; omega) hG12 (fun k e => .inr (by have := (havl k e).1; omega))).grown (by have := hR.size; have := hG12.size; omega) hr13 (fun k e => by cases e; exact .inl rfl)
                    have hs13 : wL.heap.size ≤ (w12.setCell ⟨r, 65544, none⟩ (.slice (some ⟨g3, 0, none⟩) (R.at_.length + 1) cap3)).heap.size := Nat.le_trans (Nat.le_trans hs11 hG12.size) hr13.size
                    go_ret
                    rw [HP.out]
                    refine ⟨rfl, hF13, fun _ => ⟨hR.nine, hR.lt, Nat.le_trans hR.size hs13, HOK.out, pv, _, _, hA13, .inr ⟨HD.out, n1, hn01, Nat.le_trans hn1s hs13, hPre13, hGA13⟩⟩⟩
            · have e3 : ((K : Int) == 3) = false := by rw [beq_eq_false_iff_ne]; omega
              have e4 : ((K : Int) == 4) = true := by rw [beq_iff_eq]; omega
              have a3 : ((l.length : Int) != 3) = true := by rw [bne_iff_ne]; omega
              have HARY : Hid ((K = 3 ∧ l.length ≠ 2) ∨ (K = 4 ∧ l.length ≠ 3)) := hid (by omega)
              clear hk3 hk4 ha
              have HP : addL R no (gateL s) = (2, R) := by
                rw [HL2.out]
                unfold addL
                simp only []
                rw [if_neg (by rw [HD.out]; simp), if_pos HARY.out]
              have HPH := hid HP
              clear HP
              go_wp2_with fail
              go_ret
              rw [HPH.out]
              exact ⟨rfl, hW7.1, fun h => absurd h (by simp)⟩
          · have e3 : ((K : Int) == 3) = false := by rw [beq_eq_false_iff_ne]; omega
            have e4 : ((K : Int) == 4) = false := by rw [beq_eq_false_iff_ne]; omega
            have HAR : Hid (¬ ((K = 3 ∧ l.length ≠ 2) ∨ (K = 4 ∧ l.length ≠ 3))) := hid (by omega)
            clear hk3 hk4
            cases hsn : R.seen vn with
            | true =>
              have HP : addL R no (gateL s) = (7, R) := by
                rw [HL2.out]
                unfold addL
                simp only [Int.toNat_natCast]
                rw [if_neg (by rw [HD.out]; simp), if_neg HAR.out, if_pos hsn]
              have HPH := hid HP
              rw [hsn] at CD
              clear HP hsn
              go_wp2_with (first | (go_at_call 128; refine CD.mono ?_; rintro e w8 ⟨rfl, hA8, g78⟩) | fail)
              go_ret
              rw [HPH.out]
              exact ⟨rfl, hW7.1.grown (Nat.le_trans hR.size hW7.2.size) g78 (fun k e => by cases e; exact .inl rfl), fun h => absurd h (by simp)⟩
            | false =>
              rw [hsn] at CD
              have HSN := hid hsn
              clear hsn
              go_wp2_with fail
              go_at_call 128
              refine CD.mono ?_
              rintro e w8 ⟨rfl, hA8, g78⟩
              have G8 := row_grown G7 g78 (by intro e; injection e with e; exact hqr e.symm)
              have hF8 : Fr n0 r w w8 := hW7.1.grown (Nat.le_trans hR.size hW7.2.size) g78 (fun k e => by cases e; exact .inl rfl)
              clear CD c7o c7d c70 c71 c72 c61 f61 c52 f52 hA7 h7
              have cl8 := hA8.cLits
              simp only [] at cl8
              have fl8 := hA8.free 65541
              have hA9 := hA8.put 65541 (.int .i64 ((R.lits : Int) + (l.length : Int))) (fun cs h => by rw [← Int.natCast_add]; exact h.setLits _)
              have cl9 := hA9.cLits
              simp only [Int.natCast_add] at cl9
              by_cases hov : 200000 < R.lits + l.length
              · have HP : addL R no (gateL s) = (3, R) := by
                  rw [HL2.out]
                  unfold addL
                  simp only [Int.toNat_natCast]
                  rw [if_neg (by rw [HD.out]; simp), if_neg HAR.out, if_neg (by rw [HSN.out]; simp), if_pos hov]
                have HPH := hid HP
                have hov2 : (200000 : Int) < (R.lits : Int) + (l.length : Int) := by omega
                clear HP hov
                go_wp2_with fail
                go_ret
                rw [HPH.out]
                exact ⟨rfl, hF8.grown (by have := hF8.size; have := hR.size; have := hB.size; omega) (grown_setCell w8 ⟨r, 65541, none⟩ _) (fun k e => by injection e with e; exact .inl e.symm), fun h => absurd h (by simp)⟩
              · have hov2 : decide ((200000 : Int) < (R.lits : Int) + (l.length : Int)) = false := decide_eq_false (by omega)
                have HOV := hid hov
                have HP := hid (show addL R no (gateL s) = (0, { R with seen := upd R.seen vn true, lits := R.lits + l.length, gates := R.gates ++ [⟨(vn : Int), (K : Int), l⟩], at_ := R.at_ ++ [no] }) by
                  rw [HL2.out]
                  unfold addL
                  simp only [Int.toNat_natCast]
                  rw [if_neg (by rw [HD.out]; simp), if_neg HAR.out, if_neg (by rw [HSN.out]; simp), if_neg hov])
                have HOK : Hid (RSok { R with seen := upd R.seen vn true, lits := R.lits + l.length, gates := R.gates ++ [⟨(vn : Int), (K : Int), l⟩], at_ := R.at_ ++ [no] } (no + 1)) := by
                  have hk := hR.ok
                  refine hid ⟨hk.vars, hk.nv, by simp only []; omega, hk.pre, Nat.le_succ_of_le hk.prel, ?_, ?_, fun g hg' => ?_, hk.out⟩
                  · have := hk.gl; simp only [List.length_append, List.length_cons, List.length_nil]; omega
                  · have := hk.al; simp only [List.length_append, List.length_cons, List.length_nil]; omega
                  · rcases List.mem_append.1 hg' with hg' | hg'
                    · exact hk.gs g hg'
                    · rw [List.mem_singleton.1 hg']
                      exact ⟨⟨by simp only []; omega, by simp only []; omega⟩, ⟨by simp only []; omega, by simp only []; omega⟩, hsm⟩
                clear hov
                go_wp2_with fail
                rcases hph with ⟨h0, _⟩ | ⟨-, n1, hn01, hn1s, hPre, hGA⟩
                · rw [HD.out] at h0; cases h0
                have hBW := hW7.2
                have g79 : ((w5.setCell ⟨q, 2, none⟩ (.slice A l.length c)).setCell ⟨q, 1, none⟩ (.int .u8 (K : Int))).grownBy (w8.setCell ⟨r, 65541, none⟩ (.int .i64 ((R.lits : Int) + (l.length : Int)))) (some r) := g78.trans (grown_setCell w8 ⟨r, 65541, none⟩ _)
                have G9 := row_grown G7 g79 (by intro e; injection e with e; exact hqr e.symm)
                have hF9 : Fr n0 r w (w8.setCell ⟨r, 65541, none⟩ (.int .i64 ((R.lits : Int) + (l.length : Int)))) := hW7.1.grown (Nat.le_trans hR.size hBW.size) g79 (fun k e => by cases e; exact .inl rfl)
                have hO7 : ((w5.setCell ⟨q, 2, none⟩ (.slice A l.length c)).setCell ⟨q, 1, none⟩ (.int .u8 (K : Int))).ownsRow w4.heap.size 3 1 (.slice A l.length c) l.length (nums l) := own_far hO gW hq4
                have hr4 : r < w4.heap.size := by have := hR.lt; have := hR.size; omega
                have hO9 := own_far hO7 g79 hr4
                have hK9 : ∀ k, n0 ≤ k → k < wL.heap.size → (w8.setCell ⟨r, 65541, none⟩ (.int .i64 ((R.lits : Int) + (l.length : Int)))).heap[k]? = wL.heap[k]? := fun k hk hk2 =>
                  (g79.block k (by have := hBW.size; omega) (by intro e; injection e with e; have := hR.lt; omega)).trans (hBW.block k hk2)
                have hs9 : wL.heap.size ≤ (w8.setCell ⟨r, 65541, none⟩ (.int .i64 ((R.lits : Int) + (l.length : Int)))).heap.size := Nat.le_trans hBW.size g79.size
                generalize (w8.setCell ⟨r, 65541, none⟩ (.int .i64 ((R.lits : Int) + (l.length : Int)))) = w9 at *
                have hGA9 : GA w9 n1 gv av R.gates R.at_ := hGA.keep hs9 (fun k hk hk2 => hK9 k (by omega) hk2)
                have hPre9 : PreAt w9 n0 n1 pv R.pre := hPre.keep (fun k hk hk2 => hK9 k hk (by omega))
                obtain ⟨xs, hrow⟩ := hGA9.stay.row
                obtain ⟨Ag, cg, rfl, -, -⟩ := hGA9.stay.form
                have hgvl : ∀ k, (Value.slice Ag R.gates.length cg).ownBlock = some k → n1 ≤ k ∧ k < wL.heap.size := fun k e => by
                  obtain ⟨xs', h'⟩ := hGA.stay.row
                  exact h'.lt k e
                have havl : ∀ k, av.ownBlock = some k → n1 ≤ k ∧ k < wL.heap.size := fun k e => hGA.ats.lt k e
                have hgl : R.gates.length ≤ 4194305 := Nat.le_trans hR.ok.gl hno
                have HGL := hid hgl
                have hb40 : (R.gates.length + 1) * 40 ≤ 140737488355328 := by omega
                clear hgl hPre hK9 g79 g78 gW G7 G8 cl8 fl8 cl9 hO7 hO hBW hW7 hGA
                have hn19 : n1 ≤ w9.heap.size := by omega
                have cg9 := hA9.cGat
                have s0 := cell_row G9 (j := 0) rfl
                have s1' := cell_row G9 (j := 1) rfl
                have s2' := cell_row G9 (j := 2) rfl
                have HSW : Hid (∀ w', Below w9.heap.size w9 w' → w'.cell? ⟨q, 0, none⟩ = some (.int .i64 (vn : Int)) ∧ w'.cell? ⟨q, 1, none⟩ = some (.int .u8 (K : Int)) ∧ w'.cell? ⟨q, 2, none⟩ = some (.slice A l.length c)) := hid fun W hW => ⟨keeps_below hW _ _ s0, keeps_below hW _ _ s1', keeps_below hW _ _ s2'⟩
                have HSW4 : Hid (∀ w', w9.grownBy w' (Value.slice Ag R.gates.length cg).ownBlock → w'.cell? ⟨q, 0, none⟩ = some (.int .i64 (vn : Int)) ∧ w'.cell? ⟨q, 1, none⟩ = some (.int .u8 (K : Int)) ∧ w'.cell? ⟨q, 2, none⟩ = some (.slice A l.length c)) := hid fun W hW =>
                  ⟨hW.cell s0 (fun e => by have := (hgvl q e.symm).2; omega), hW.cell s1' (fun e => by have := (hgvl q e.symm).2; omega), hW.cell s2' (fun e => by have := (hgvl q e.symm).2; omega)⟩
                have HSW5 : Hid (∀ (W w' : World), W.grownBy w' (some r) → (W.cell? ⟨q, 0, none⟩ = some (.int .i64 (vn : Int)) ∧ W.cell? ⟨q, 1, none⟩ = some (.int .u8 (K : Int)) ∧ W.cell? ⟨q, 2, none⟩ = some (.slice A l.length c)) → (w'.cell? ⟨q, 0, none⟩ = some (.int .i64 (vn : Int)) ∧ w'.cell? ⟨q, 1, none⟩ = some (.int .u8 (K : Int)) ∧ w'.cell? ⟨q, 2, none⟩ = some (.slice A l.length c))) := hid fun W W' hW ⟨h1, h2, h3⟩ =>
                  ⟨hW.cell h1 (fun e => by injection e with e; exact hqr e), hW.cell h2 (fun e => by injection e with e; exact hqr e), hW.cell h3 (fun e => by injection e with e; exact hqr e)⟩
                have cgA : (w9.alloc (.cells #[.int .i64 (vn : Int), .int .u8 (K : Int), .slice A l.length c] 88)).cell? ⟨r, 1, none⟩ = some (.slice Ag R.gates.length cg) := keeps_below ((Below.refl _ w9).alloc (Nat.le_refl _) _) _ _ cg9
                clear s0 s1' s2'
                refine wp_region_held_drew (S := fun w' => w'.cell? ⟨q, 0, none⟩ = some (.int .i64 (vn : Int)) ∧ w'.cell? ⟨q, 1, none⟩ = some (.int .u8 (K : Int)) ∧ w'.cell? ⟨q, 2, none⟩ = some (.slice A l.length c)) (by kernel_rfl) (HSW.out _ ((Below.refl _ w9).drew)) (fun hHeld => ?_)
                refine wpAnyH_take (i := 0) (v := ?v0) rfl (by kernel_rfl) (by kernel_rfl) (by kernel_rfl) (fun _ _ _ h => h) (Or.inl ⟨by rfl, ?y0⟩) hHeld ?_
                case y0 => (intro w hSw; (try dsimp only at hSw); go_simp); (try with_reducible rfl)
                try simp only [Act.put, List.setIfInBounds_toArray, List.set_cons_zero, List.set_cons_succ]
                refine wpAnyH_take (i := 1) (v := ?v1) rfl (by kernel_rfl) (by kernel_rfl) (by kernel_rfl) (fun _ _ _ h => h) (Or.inl ⟨by rfl, ?y1⟩) hHeld ?_
                case y1 => (intro w hSw; (try dsimp only at hSw); go_simp); (try with_reducible rfl)
                try simp only [Act.put, List.setIfInBounds_toArray, List.set_cons_zero, List.set_cons_succ]
                refine wpAnyH_take (i := 2) (v := ?v2) rfl (by kernel_rfl) (by kernel_rfl) (by kernel_rfl) (fun _ _ _ h => h) (Or.inl ⟨by rfl, ?y2⟩) hHeld ?_
                case y2 => (intro w hSw; (try dsimp only at hSw); go_simp); (try with_reducible rfl)
                try simp only [Act.put, List.setIfInBounds_toArray, List.set_cons_zero, List.set_cons_succ]
                refine wpAnyH_take (i := 3) (v := ?v3) rfl (by kernel_rfl) (by kernel_rfl) (by kernel_rfl) (fun _ _ _ h => h) (Or.inl ⟨by rfl, ?y3⟩) hHeld ?_
                case y3 => (intro w hSw; (try dsimp only at hSw); go_simp); (try with_reducible rfl)
                try simp only [Act.put, List.setIfInBounds_toArray, List.set_cons_zero, List.set_cons_succ]
                refine wpAnyH_take (i := 4) (v := ?v4) rfl (by kernel_rfl) (by kernel_rfl) (by kernel_rfl) (fun _ _ _ h => h) (Or.inl ⟨by rfl, ?y4⟩) hHeld ?_
                case y4 => (intro w hSw; (try dsimp only at hSw); go_simp); (try with_reducible rfl)
                try simp only [Act.put, List.setIfInBounds_toArray, List.set_cons_zero, List.set_cons_succ]
                refine wpAnyH_take (i := 6) (v := ?v6) rfl (by kernel_rfl) (by kernel_rfl) (by kernel_rfl) (fun _ _ _ h => h) (Or.inl ⟨by rfl, ?y6⟩) hHeld ?_
                case y6 => (intro w hSw; (try dsimp only at hSw); go_simp); (try with_reducible rfl)
                try simp only [Act.put, List.setIfInBounds_toArray, List.set_cons_zero, List.set_cons_succ]
                refine wpAnyH_ready (rs := [5, 7]) (by kernel_rfl) (by simp) ?_
                refine AllReadyH.cons rfl (fun Kc hKc => ?_) (AllReadyH.cons rfl (fun Kc hKc => ?_) AllReadyH.nil)
                · go_simp
                  refine hKc.out _ _ hHeld (fun hHeld => ?_)
                  clear hKc Kc
                  try simp only [Act.put, List.setIfInBounds_toArray, List.set_cons_zero, List.set_cons_succ]
                  refine wpAnyH_ready (rs := [7]) (by kernel_rfl) (by simp) ?_
                  refine AllReadyH.cons rfl (fun Kc hKc => ?_) AllReadyH.nil
                  go_simp
                  refine hKc.out _ _ (HSW.out _ (((Below.refl _ w9).alloc (Nat.le_refl _) _).drew)) (fun hHeld => ?_)
                  clear hKc Kc
                  try simp only [Act.put, List.setIfInBounds_toArray, List.set_cons_zero, List.set_cons_succ]
                  refine wpAnyH_ready (rs := [8]) (by kernel_rfl) (by simp) ?_
                  refine AllReadyH.cons rfl (fun Kc hKc => ?_) AllReadyH.nil
                  refine step_append_one (W := w9) n1 (by rfl) _ _ 38 88 (.agg #[.int .i64 0, .int .u8 0, .slice none 0 0]) 3 40 (by rfl) Tryz.underlying38 info70 rfl (by decide) (by decide) (.slice Ag R.gates.length cg) R.gates.length xs #[.int .i64 (vn : Int), .int .u8 (K : Int), .slice A l.length c] (by rfl) (by rfl) rfl (by intro u hu; simp at hu; rcases hu with rfl | rfl | rfl <;> rfl) hrow hn19 hb40 ?_
                  intro g2 cap2 w10 hO10 hG10 hg10 hbg hlt10
                  have SK := HSW4.out w10 hG10
                  have hA10 := hA9.grown hG10 (fun e => by have := hgvl r e; have := hR.lt; omega)
                  have c10 := hA10.cGat
                  have f10 := hA10.free 1
                  refine hKc.out _ _ SK (fun hHeld => ?_)
                  clear hKc Kc
                  try simp only [Act.put, List.setIfInBounds_toArray, List.set_cons_zero, List.set_cons_succ]
                  refine wpAnyH_take (i := 9) (v := ?v9a) rfl (by kernel_rfl) (by kernel_rfl) (by kernel_rfl) (fun _ _ _ h => h) (Or.inl ⟨by rfl, ?y9a⟩) hHeld ?_
                  case y9a => (intro w hSw; (try dsimp only at hSw); go_simp); (try with_reducible rfl)
                  try simp only [Act.put, List.setIfInBounds_toArray, List.set_cons_zero, List.set_cons_succ]
                  refine wpAnyH_take (i := 10) (v := ?v10a) rfl (by kernel_rfl) (by kernel_rfl) (by kernel_rfl) (fun _ _ _ h => h) (Or.inl ⟨by rfl, ?y10a⟩) hHeld ?_
                  case y10a => (intro w hSw; (try dsimp only at hSw); go_simp); (try with_reducible rfl)
                  try simp only [Act.put, List.setIfInBounds_toArray, List.set_cons_zero, List.set_cons_succ]
                  refine wpAnyH_take (i := 11) (v := ?v11a) rfl (by kernel_rfl) (by kernel_rfl) (by kernel_rfl) (fun _ _ _ h => h) (Or.inl ⟨by rfl, ?y11a⟩) hHeld ?_
                  case y11a => (intro w hSw; (try dsimp only at hSw); go_simp); (try with_reducible rfl)
                  try simp only [Act.put, List.setIfInBounds_toArray, List.set_cons_zero, List.set_cons_succ]
                  refine wpAnyH_ready (rs := [12]) (by kernel_rfl) (by simp) ?_
                  refine AllReadyH.cons rfl (fun Kc hKc => ?_) AllReadyH.nil
                  go_simp
                  refine hKc.out _ _ (HSW5.out _ _ (grown_setCell w10 ⟨r, 1, none⟩ _) SK) (fun hHeld => ?_)
                  clear hKc Kc
                  try simp only [Act.put, List.setIfInBounds_toArray, List.set_cons_zero, List.set_cons_succ]
                  refine wpAnyH_done (by kernel_rfl) ?_ _
                  have hGA10 : GA w10 n1 (.slice (some ⟨g2, 0, none⟩) (R.gates.length + 1) cap2) av (R.gates ++ [⟨(vn : Int), (K : Int), l⟩]) R.at_ := by
                    refine hGA9.pushG (n := wL.heap.size) ⟨⟨by simp only []; omega, by simp only []; omega⟩, by simp only []; omega, by simp only []; omega⟩ (ints_of_own hO9 (fun x hx => by have := hsm x hx; exact ⟨by omega, by omega⟩) (by omega)) (fun k e => ⟨by have := (hO9.lt k e).1; omega, (hO9.lt k e).2⟩) hn1s (fun k e => (hgvl k e).2) (fun k e => (havl k e).2) (fun xs' h' => ?_) hG10 (fun k e => ?_)
                    · rw [own_unique h' hrow]; exact hO10
                    · cases e
                      exact hg10
                  have hA11 := hA10.put 1 (.slice (some ⟨g2, 0, none⟩) (R.gates.length + 1) cap2) (fun cs h => h.setGat _ (R.gates ++ [⟨(vn : Int), (K : Int), l⟩]))
                  have hr11 : w10.grownBy (w10.setCell ⟨r, 1, none⟩ (.slice (some ⟨g2, 0, none⟩) (R.gates.length + 1) cap2)) (some r) := grown_setCell w10 ⟨r, 1, none⟩ _
                  have hGA11 := hGA10.keep hr11.size (fun k hk hk2 => hr11.block k hk2 (by intro e; injection e with e; have := hR.lt; omega))
                  have hPre11 := hPre9.keep (fun k hk hk2 => (hr11.block k (by have := hG10.size; omega) (by intro e; injection e with e; have := hR.lt; omega)).trans (hG10.block k (by omega) (fun e => by have := (hgvl k e.symm).1; omega)))
                  have hF11 := (hF9.grown (by have := hR.size; omega) hG10 (fun k e => .inr (by have := (hgvl k e).1; omega))).grown (by have := hR.size; have := hG10.size; omega) hr11 (fun k e => by cases e; exact .inl rfl)
                  have hs11 : wL.heap.size ≤ (w10.setCell ⟨r, 1, none⟩ (.slice (some ⟨g2, 0, none⟩) (R.gates.length + 1) cap2)).heap.size := Nat.le_trans (Nat.le_trans hs9 hG10.size) hr11.size
                  clear c10 f10 cgA cg9 hrow hGA9 hPre9 hA9 hA10 hO10 hG10 hGA10 SK hHeld HSW HSW4 HSW5 hF9 hr11
                  generalize (w10.setCell ⟨r, 1, none⟩ (.slice (some ⟨g2, 0, none⟩) (R.gates.length + 1) cap2)) = w11 at *
                  have ca := hA11.cAt
                  have hAts := hGA11.ats
                  have hb8 : (R.at_.length + 1) * 8 ≤ 140737488355328 := by have := hR.ok.al; have := HGL.out; omega
                  have hn111 : n1 ≤ w11.heap.size := by omega
                  go_wp2_with (first | (at_builtin; refine append_one n1 rfl _ _ 48 3 (.int .i64 0) 1 8 rfl Tryz.underlying48 info3 rfl (by decide) (by decide) av R.at_.length (nums (natI R.at_)) #[.int .i64 (no : Int)] rfl rfl rfl (by intro u hu; simp at hu; subst hu; rfl) hAts hn111 hb8 ?_; intro g3 cap3 w12 hO12 hG12 hg12 hbg12 hlt12; have hA12 := hA11.grown hG12 (fun e => by have := havl r e; have := hR.lt; omega); have ca12 := hA12.cAt; have fa12 := hA12.free 65544) | fail)
                  have hGA12 := hGA11.pushA no hO12 hG12 (fun k e => by cases e; exact hg12)
                  have hA13 := hA12.put 65544 (.slice (some ⟨g3, 0, none⟩) (R.at_.length + 1) cap3) (fun cs h => h.setAt _ (R.at_ ++ [no]))
                  have hr13 : w12.grownBy (w12.setCell ⟨r, 65544, none⟩ (.slice (some ⟨g3, 0, none⟩) (R.at_.length + 1) cap3)) (some r) := grown_setCell w12 ⟨r, 65544, none⟩ _
                  have hGA13 := hGA12.keep hr13.size (fun k hk hk2 => hr13.block k hk2 (by intro e; injection e with e; have := hR.lt; omega))
                  have hPre13 := hPre11.keep (fun k hk hk2 => (hr13.block k (by have := hG12.size; omega) (by intro e; injection e with e; have := hR.lt; omega)).trans (hG12.block k (by omega) (fun e => by have := (havl k e.symm).1; omega)))
                  have hF13 := (hF11.grown (by have := hR.size; omega) hG12 (fun k e => .inr (by have := (havl k e).1; omega))).grown (by have := hR.size; have := hG12.size; omega) hr13 (fun k e => by cases e; exact .inl rfl)
                  have hs13 : wL.heap.size ≤ (w12.setCell ⟨r, 65544, none⟩ (.slice (some ⟨g3, 0, none⟩) (R.at_.length + 1) cap3)).heap.size := Nat.le_trans (Nat.le_trans hs11 hG12.size) hr13.size
                  go_ret
                  rw [HP.out]
                  refine ⟨rfl, hF13, fun _ => ⟨hR.nine, hR.lt, Nat.le_trans hR.size hs13, HOK.out, pv, _, _, hA13, .inr ⟨HD.out, n1, hn01, Nat.le_trans hn1s hs13, hPre13, hGA13⟩⟩⟩
                · go_simp
                  refine hKc.out _ _ (HSW.out _ (((Below.refl _ w9).alloc (Nat.le_refl _) _).drew)) (fun hHeld => ?_)
                  clear hKc Kc
                  try simp only [Act.put, List.setIfInBounds_toArray, List.set_cons_zero, List.set_cons_succ]
                  refine wpAnyH_ready (rs := [5]) (by kernel_rfl) (by simp) ?_
                  refine AllReadyH.cons rfl (fun Kc hKc => ?_) AllReadyH.nil
                  go_simp
                  refine hKc.out _ _ hHeld (fun hHeld => ?_)
                  clear hKc Kc
                  try simp only [Act.put, List.setIfInBounds_toArray, List.set_cons_zero, List.set_cons_succ]
                  refine wpAnyH_ready (rs := [8]) (by kernel_rfl) (by simp) ?_
                  refine AllReadyH.cons rfl (fun Kc hKc => ?_) AllReadyH.nil
                  refine step_append_one (W := w9) n1 (by rfl) _ _ 38 88 (.agg #[.int .i64 0, .int .u8 0, .slice none 0 0]) 3 40 (by rfl) Tryz.underlying38 info70 rfl (by decide) (by decide) (.slice Ag R.gates.length cg) R.gates.length xs #[.int .i64 (vn : Int), .int .u8 (K : Int), .slice A l.length c] (by rfl) (by rfl) rfl (by intro u hu; simp at hu; rcases hu with rfl | rfl | rfl <;> rfl) hrow hn19 hb40 ?_
                  intro g2 cap2 w10 hO10 hG10 hg10 hbg hlt10
                  have SK := HSW4.out w10 hG10
                  have hA10 := hA9.grown hG10 (fun e => by have := hgvl r e; have := hR.lt; omega)
                  have c10 := hA10.cGat
                  have f10 := hA10.free 1
                  refine hKc.out _ _ SK (fun hHeld => ?_)
                  clear hKc Kc
                  try simp only [Act.put, List.setIfInBounds_toArray, List.set_cons_zero, List.set_cons_succ]
                  refine wpAnyH_take (i := 9) (v := ?v9b) rfl (by kernel_rfl) (by kernel_rfl) (by kernel_rfl) (fun _ _ _ h => h) (Or.inl ⟨by rfl, ?y9b⟩) hHeld ?_
                  case y9b => (intro w hSw; (try dsimp only at hSw); go_simp); (try with_reducible rfl)
                  try simp only [Act.put, List.setIfInBounds_toArray, List.set_cons_zero, List.set_cons_succ]
                  refine wpAnyH_take (i := 10) (v := ?v10b) rfl (by kernel_rfl) (by kernel_rfl) (by kernel_rfl) (fun _ _ _ h => h) (Or.inl ⟨by rfl, ?y10b⟩) hHeld ?_
                  case y10b => (intro w hSw; (try dsimp only at hSw); go_simp); (try with_reducible rfl)
                  try simp only [Act.put, List.setIfInBounds_toArray, List.set_cons_zero, List.set_cons_succ]
                  refine wpAnyH_take (i := 11) (v := ?v11b) rfl (by kernel_rfl) (by kernel_rfl) (by kernel_rfl) (fun _ _ _ h => h) (Or.inl ⟨by rfl, ?y11b⟩) hHeld ?_
                  case y11b => (intro w hSw; (try dsimp only at hSw); go_simp); (try with_reducible rfl)
                  try simp only [Act.put, List.setIfInBounds_toArray, List.set_cons_zero, List.set_cons_succ]
                  refine wpAnyH_ready (rs := [12]) (by kernel_rfl) (by simp) ?_
                  refine AllReadyH.cons rfl (fun Kc hKc => ?_) AllReadyH.nil
                  go_simp
                  refine hKc.out _ _ (HSW5.out _ _ (grown_setCell w10 ⟨r, 1, none⟩ _) SK) (fun hHeld => ?_)
                  clear hKc Kc
                  try simp only [Act.put, List.setIfInBounds_toArray, List.set_cons_zero, List.set_cons_succ]
                  refine wpAnyH_done (by kernel_rfl) ?_ _
                  have hGA10 : GA w10 n1 (.slice (some ⟨g2, 0, none⟩) (R.gates.length + 1) cap2) av (R.gates ++ [⟨(vn : Int), (K : Int), l⟩]) R.at_ := by
                    refine hGA9.pushG (n := wL.heap.size) ⟨⟨by simp only []; omega, by simp only []; omega⟩, by simp only []; omega, by simp only []; omega⟩ (ints_of_own hO9 (fun x hx => by have := hsm x hx; exact ⟨by omega, by omega⟩) (by omega)) (fun k e => ⟨by have := (hO9.lt k e).1; omega, (hO9.lt k e).2⟩) hn1s (fun k e => (hgvl k e).2) (fun k e => (havl k e).2) (fun xs' h' => ?_) hG10 (fun k e => ?_)
                    · rw [own_unique h' hrow]; exact hO10
                    · cases e
                      exact hg10
                  have hA11 := hA10.put 1 (.slice (some ⟨g2, 0, none⟩) (R.gates.length + 1) cap2) (fun cs h => h.setGat _ (R.gates ++ [⟨(vn : Int), (K : Int), l⟩]))
                  have hr11 : w10.grownBy (w10.setCell ⟨r, 1, none⟩ (.slice (some ⟨g2, 0, none⟩) (R.gates.length + 1) cap2)) (some r) := grown_setCell w10 ⟨r, 1, none⟩ _
                  have hGA11 := hGA10.keep hr11.size (fun k hk hk2 => hr11.block k hk2 (by intro e; injection e with e; have := hR.lt; omega))
                  have hPre11 := hPre9.keep (fun k hk hk2 => (hr11.block k (by have := hG10.size; omega) (by intro e; injection e with e; have := hR.lt; omega)).trans (hG10.block k (by omega) (fun e => by have := (hgvl k e.symm).1; omega)))
                  have hF11 := (hF9.grown (by have := hR.size; omega) hG10 (fun k e => .inr (by have := (hgvl k e).1; omega))).grown (by have := hR.size; have := hG10.size; omega) hr11 (fun k e => by cases e; exact .inl rfl)
                  have hs11 : wL.heap.size ≤ (w10.setCell ⟨r, 1, none⟩ (.slice (some ⟨g2, 0, none⟩) (R.gates.length + 1) cap2)).heap.size := Nat.le_trans (Nat.le_trans hs9 hG10.size) hr11.size
                  clear c10 f10 cgA cg9 hrow hGA9 hPre9 hA9 hA10 hO10 hG10 hGA10 SK hHeld HSW HSW4 HSW5 hF9 hr11
                  generalize (w10.setCell ⟨r, 1, none⟩ (.slice (some ⟨g2, 0, none⟩) (R.gates.length + 1) cap2)) = w11 at *
                  have ca := hA11.cAt
                  have hAts := hGA11.ats
                  have hb8 : (R.at_.length + 1) * 8 ≤ 140737488355328 := by have := hR.ok.al; have := HGL.out; omega
                  have hn111 : n1 ≤ w11.heap.size := by omega
                  go_wp2_with (first | (at_builtin; refine append_one n1 rfl _ _ 48 3 (.int .i64 0) 1 8 rfl Tryz.underlying48 info3 rfl (by decide) (by decide) av R.at_.length (nums (natI R.at_)) #[.int .i64 (no : Int)] rfl rfl rfl (by intro u hu; simp at hu; subst hu; rfl) hAts hn111 hb8 ?_; intro g3 cap3 w12 hO12 hG12 hg12 hbg12 hlt12; have hA12 := hA11.grown hG12 (fun e => by have := havl r e; have := hR.lt; omega); have ca12 := hA12.cAt; have fa12 := hA12.free 65544) | fail)
                  have hGA12 := hGA11.pushA no hO12 hG12 (fun k e => by cases e; exact hg12)
                  have hA13 := hA12.put 65544 (.slice (some ⟨g3, 0, none⟩) (R.at_.length + 1) cap3) (fun cs h => h.setAt _ (R.at_ ++ [no]))
                  have hr13 : w12.grownBy (w12.setCell ⟨r, 65544, none⟩ (.slice (some ⟨g3, 0, none⟩) (R.at_.length + 1) cap3)) (some r) := grown_setCell w12 ⟨r, 65544, none⟩ _
                  have hGA13 := hGA12.keep hr13.size (fun k hk hk2 => hr13.block k hk2 (by intro e; injection e with e; have := hR.lt; omega))
                  have hPre13 := hPre11.keep (fun k hk hk2 => (hr13.block k (by have := hG12.size; omega) (by intro e; injection e with e; have := hR.lt; omega)).trans (hG12.block k (by omega) (fun e => by have := (havl k e.symm).1; omega)))
                  have hF13 := (hF11.grown (by have := hR.size; omega) hG12 (fun k e => .inr (by have := (havl k e).1; omega))).grown (by have := hR.size; have := hG12.size; omega) hr13 (fun k e => by cases e; exact .inl rfl)
                  have hs13 : wL.heap.size ≤ (w12.setCell ⟨r, 65544, none⟩ (.slice (some ⟨g3, 0, none⟩) (R.at_.length + 1) cap3)).heap.size := Nat.le_trans (Nat.le_trans hs11 hG12.size) hr13.size
                  go_ret
                  rw [HP.out]
                  refine ⟨rfl, hF13, fun _ => ⟨hR.nine, hR.lt, Nat.le_trans hR.size hs13, HOK.out, pv, _, _, hA13, .inr ⟨HD.out, n1, hn01, Nat.le_trans hn1s hs13, hPre13, hGA13⟩⟩⟩
end Go.Proofs.YtnlobmepajakcaaGreatDoor
