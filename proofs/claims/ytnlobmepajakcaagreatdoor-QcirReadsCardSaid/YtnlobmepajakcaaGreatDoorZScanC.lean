/- What the scanner of qcir does: list; the condition: texts have at most 2^22 bytes. -/
import Derived.Test.YtnlobmepajakcaaGreatDoorZScanB
set_option linter.unusedVariables false
set_option linter.unusedSimpArgs false
namespace Go.Proofs.YtnlobmepajakcaaGreatDoor
open Go.RowKit Go.Shelf

/-- An element: what is left when it went well is shorter. -/
structure ElOK (el : Scan → Int × Scan) : Prop where
  len : ∀ s, (el s).2.rest.length ≤ s.rest.length
  short : ∀ s, (el s).2.ok = true → (el s).2.rest.length < s.rest.length ∧ s.ok = true
  small : ∀ s, -65536 ≤ (el s).1 ∧ (el s).1 ≤ 65536
theorem number_short (s : Scan) (h : (numberP s).2.ok = true) : (numberP s).2.rest.length < s.rest.length ∧ s.ok = true := by
  unfold numberP at h ⊢
  cases hv : numV (s.rest.takeWhile isDig) with
  | none => rw [hv] at h; simp at h
  | some n =>
    rw [hv] at h
    simp only [] at h ⊢
    refine ⟨?_, h⟩
    have hne : s.rest.takeWhile isDig ≠ [] := by
      intro e
      rw [e] at hv
      simp [numV] at hv
    have h1 := sp_len (s.rest.dropWhile isDig)
    have h2 : (s.rest.takeWhile isDig).length + (s.rest.dropWhile isDig).length = s.rest.length := by
      rw [← List.length_append, List.takeWhile_append_dropWhile]
    have h3 : 0 < (s.rest.takeWhile isDig).length := List.length_pos_iff.2 hne
    omega
theorem elok_number : ElOK numberP := ⟨numberP_len, number_short, fun s => by have := numberP_bound s; omega⟩
theorem elok_literal : ElOK literalP := by
  refine ⟨literalP_len, fun s h => ?_, literalP_bound⟩
  unfold literalP at h ⊢
  have hs := signP_len 45 s.rest
  by_cases hc : (signP 45 s.rest).1 = true
  · rw [if_pos hc] at h ⊢
    have := number_short ⟨(signP 45 s.rest).2, s.ok⟩ h
    simp only [] at this ⊢
    exact ⟨by omega, this.2⟩
  · rw [if_neg hc] at h ⊢
    exact number_short s h
theorem listGo_stop (el : Scan → Int × Scan) (f : Nat) (l : List Int) {s : Scan} (h : moreP s = false) : listGo el f l s = (l, s) := by
  cases f with
  | zero => rfl
  | succ f => rw [listGo, if_neg (by rw [h]; simp)]
theorem listGo_step (el : Scan → Int × Scan) (f : Nat) (l : List Int) {s : Scan} (h : moreP s = true) : listGo el (f + 1) l s = listGo el f (roundP el l s).1 (roundP el l s).2 := by
  rw [listGo, if_pos h]
theorem nums_snoc1 (l : List Int) (x : Int) : nums l ++ (#[Value.int .i64 x] : Array Value).toList = nums (l ++ [x]) := by
  unfold nums; simp
theorem own_far {w w' : World} {base : Nat} {e : TypeId} {size : Nat} {v : Value} {n : Nat} {xs : List Value} {b : Nat} (h : w.ownsRow base e size v n xs) (hg : w.grownBy w' (some b)) (hb : b < base) : w'.ownsRow base e size v n xs := by
  refine h.kept hg ?_
  cases hv : v.ownBlock with
  | none => exact .inl rfl
  | some r =>
    right
    intro e
    injection e with e
    have := (h.lt r hv).1
    omega
set_option maxRecDepth 100000 in
set_option maxHeartbeats 2000000 in
theorem list_any (k : Nat) (el : Scan → Int × Scan) (hel : ElOK el) (b : Nat) (w : World) (hb9 : 9 ≤ b) (hE : Env w)
    (EK : ∀ args w, (callFunc k args).run Tryz.prog w = .ok (.enter k args) w)
    (CK : ∀ s w, ScanAt w b s → s.rest.length ≤ 4194304 → Env w → Calls Tryz.prog k #[.pointer (some ⟨b, 0, none⟩)] w fun e w' => e = .returned (.int .i64 (el s).1) ∧ ScanAt w' b (el s).2 ∧ w.grownBy w' (some b))
    (s : Scan) (h : ScanAt w b s) (hl : s.rest.length ≤ 4194304) :
    Calls Tryz.prog 126 #[.pointer (some ⟨b, 0, none⟩), .func (.func k) #[.pointer (some ⟨b, 0, none⟩)] #[]] w fun e w' => ∃ A c, e = .returned (.slice A (listP el s).1.length c) ∧ ScanAt w' b (listP el s).2 ∧ w.grownBy w' (some b) ∧
      w'.ownsRow w.heap.size 3 1 (.slice A (listP el s).1.length c) (listP el s).1.length (nums (listP el s).1) := by
  have CN := need_any 40 b s w h (by omega)
  have hn1 := needP_len 40 s
  unfold listP
  generalize needP 40 s = s0 at *
  have hlt := h.lt
  go_enter Tryz.func126, Tryz.ntmps126
  go_wp2_with (first | (go_at_call 124; refine CN.mono ?_; rintro e w1 ⟨rfl, h1, hg⟩) | fail)
  have hlt1 : b < w1.heap.size := h1.lt
  have hsz1 := hg.size
  go_loopg [4] (s0.rest.length + 2) (fun gg s4 wr => ∃ (l : List Int) (s' : Scan) (A : Option Addr) (c : Nat), s4 = .slice A l.length c ∧ ScanAt wr b s' ∧ wr.ownsRow w.heap.size 3 1 (.slice A l.length c) l.length (nums l) ∧ w.grownBy wr (some b) ∧
    listGo el (s0.rest.length + 2) [] s0 = listGo el gg l s' ∧ (s'.ok = true → s'.rest.length + 1 ≤ gg) ∧ l.length + gg ≤ s0.rest.length + 2 ∧ s'.rest.length ≤ s0.rest.length)
  case atStart => exact ⟨[], s0, none, 0, rfl, h1, by simpa [nums] using World.ownsRow_nil w1 w.heap.size 3 1, hg, rfl, fun _ => by omega, by simp, Nat.le_refl _⟩
  case round =>
    obtain ⟨l, s', A, c, rfl, hs', hO, hG, hgo, hok, hlen, hsl⟩ := hrel
    have c1 := cell_row hs' (j := 1) rfl
    have c0 := cell_row hs' (j := 0) (v := sv s'.rest) rfl
    unfold sv at c0
    have hNO : ∀ W, w.grownBy W (some b) → w.grownBy W (some b) ∧ Env W := fun W hW => ⟨hW, hE.grown hW (by intro r e; cases e; exact hb9)⟩
    by_cases hm : moreP s' = true
    · have hk1 : s'.ok = true := by unfold moreP at hm; simp at hm; exact hm.1
      have hk2 : decide (s'.rest.head? = some 41) = false := by
        unfold moreP at hm
        rw [decide_eq_false_iff_not]
        simp only [Bool.and_eq_true, Bool.not_eq_true', beq_eq_false_iff_ne, ne_eq] at hm
        exact hm.2
      have CP := prefixes s'.rest 41 wr
      rw [hk2] at CP
      rw [hk1] at c1
      have hmore := hm
      obtain ⟨g', hgk⟩ : ∃ g', gk = g' + 1 := ⟨gk - 1, by have := hok hk1; omega⟩
      subst hgk
      rw [listGo_step el g' l hm] at hgo
      have hok1 := hok hk1
      clear hk2 hm hmore hok
      by_cases hz : 0 < l.length
      · have hzi : (0 : Int) < (l.length : Int) := by omega
        have CS := need_any 44 b s' wr hs' (by omega)
        have hn44 := needP_len 44 s'
        unfold roundP at hgo
        rw [if_pos hz] at hgo
        have hqs : (needP 44 s').ok = true → s'.ok = true := by unfold needP; simp only [Bool.and_eq_true]; exact fun h => h.2
        generalize hq : needP 44 s' = q at *
        have HGO := hid hgo
        have HQ := hid (And.intro hq hqs)
        have HK := hid hk1
        have hwb := hG.size
        clear hgo hk1 hq hqs hz
        have hql : q.rest.length ≤ 4194304 := by omega
        have hbig : (l.length + 1) * 8 ≤ 140737488355328 := by omega
        go_wp2_with (first | (go_at_call 37; refine CP.mono ?_; rintro e w' ⟨rfl, hw⟩; obtain rfl : wr = w' := hw.symm) | (go_at_call 124; refine CS.mono ?_; rintro e w4 ⟨rfl, h4, hg4⟩) | fail)
        refine (CK q w4 h4 hql (hNO w4 (hG.trans hg4)).2).mono ?_
        rintro e w2 ⟨rfl, h2, hg2⟩
        have hO2 := own_far (own_far hO hg4 hlt) hg2 hlt
        have hbs := Nat.le_trans (Nat.le_trans hwb hg4.size) hg2.size
        go_wp2_with (first | (at_builtin; refine append_one w.heap.size rfl _ _ 48 3 (.int .i64 0) 1 8 rfl Tryz.underlying48 info3 rfl (by decide) (by decide) (.slice A l.length c) l.length (nums l) #[.int .i64 (el q).1] rfl rfl rfl (by intro u hu; simp at hu; subst hu; rfl) hO2 hbs hbig ?_; intro g2 cap2 w3 hO3 hG3 hg3 hbg hlt3) | fail)
        have hne : ∀ r, (Value.slice A l.length c).ownBlock = some r → w.heap.size ≤ r := fun r e => (hO2.lt r e).1
        have hS3 := h2.moved hG3 (by intro e; have := hne b e; omega)
        have hGG := ((hG.trans hg4).trans hg2).andThen hG3 (fun j e => .inl (hne j e))
        have hel1 := hel.len q
        rw [nums_snoc] at hO3
        go_roundg g'
        case measure => omega
        case rel => exact ⟨l ++ [(el q).1], (el q).2, some ⟨g2, 0, none⟩, cap2, by simp, hS3, by simpa using hO3, hGG, HGO.out, fun ho => by have := (hel.short q ho).1; omega, by simp; omega, by omega⟩
      · have hl0 : l = [] := List.eq_nil_of_length_eq_zero (by omega)
        subst hl0
        unfold roundP at hgo
        rw [if_neg (by simp)] at hgo
        have CE := CK s' wr hs' (by omega) (hNO wr hG).2
        have HGO := hid hgo
        have HK := hid hk1
        have hwb := hG.size
        clear hgo hk1 hz
        go_wp2_with (first | (go_at_call 37; refine CP.mono ?_; rintro e w' ⟨rfl, hw⟩; obtain rfl : wr = w' := hw.symm) | (refine CE.mono ?_; rintro e w2 ⟨rfl, h2, hg2⟩; have hO2 := own_far hO hg2 hlt; have hbs := Nat.le_trans hwb hg2.size) | (at_builtin; refine append_one w.heap.size rfl _ _ 48 3 (.int .i64 0) 1 8 rfl Tryz.underlying48 info3 rfl (by decide) (by decide) (.slice A ([] : List Int).length c) ([] : List Int).length (nums []) #[.int .i64 (el s').1] rfl rfl rfl (by intro u hu; simp at hu; subst hu; rfl) hO2 hbs (by simp) ?_; intro g2 cap2 w3 hO3 hG3 hg3 hbg hlt3) | fail)
        have hne : ∀ r, (Value.slice A ([] : List Int).length c).ownBlock = some r → w.heap.size ≤ r := fun r e => (hO2.lt r e).1
        have hS3 := h2.moved hG3 (by intro e; have := hne b e; omega)
        have hGG := (hG.trans hg2).andThen hG3 (fun j e => .inl (hne j e))
        have hel1 := hel.len s'
        go_roundg g'
        case measure => omega
        case rel => exact ⟨[(el s').1], (el s').2, some ⟨g2, 0, none⟩, cap2, rfl, hS3, hO3, hGG, HGO.out, fun ho => by have := (hel.short s' ho).1; omega, by simp at hlen ⊢; omega, by omega⟩
    · have hmf : moreP s' = false := by simpa using hm
      cases hk1 : s'.ok with
      | false =>
        rw [hk1] at c1
        have HK := hid hk1
        clear hk1
        have hn3 := needP_len 41 s'
        have CN3 := need_any 41 b s' wr hs' (by omega)
        rw [listGo_stop el _ _ hmf] at hgo
        have HGO := hid hgo
        generalize hs3 : needP 41 s' = s3 at *
        have HS3 := hid hs3
        obtain ⟨r3, o3⟩ := s3
        cases o3 with
        | false =>
          clear hgo hs3 hmf hm hok
          go_wp2_with (first | (go_at_call 124; refine CN3.mono ?_; rintro e w3 ⟨rfl, h3, hg3⟩; have c31 := cell_row h3 (j := 1) rfl; have f31 := frozen_of_row _ b 1 _ _ h3) | fail)
          go_ret
          have e1 : listE (listGo el (s0.rest.length + 2) [] s0) = (l, ⟨r3, false⟩) := by unfold listE; rw [HGO.out]; simp only []; rw [HS3.out]; rfl
          rw [e1]
          exact ⟨A, c, rfl, row_set h3 _, (hG.trans hg3).trans (grown_setCell w3 ⟨b, 1, none⟩ _), own_far (own_far hO hg3 hlt) (grown_setCell w3 ⟨b, 1, none⟩ _) hlt⟩
        | true =>
          clear hgo hs3 hmf hm hok
          go_wp2_with (first | (go_at_call 124; refine CN3.mono ?_; rintro e w3 ⟨rfl, h3, hg3⟩; have c31 := cell_row h3 (j := 1) rfl; have c30 := cell_row h3 (j := 0) (v := sv r3) rfl; unfold sv at c30; have f31 := frozen_of_row _ b 1 _ _ h3) | fail)
          go_ret
          have e1 : listE (listGo el (s0.rest.length + 2) [] s0) = (l, ⟨r3, r3.isEmpty⟩) := by unfold listE; rw [HGO.out]; simp only []; rw [HS3.out]; rfl
          rw [e1]
          exact ⟨A, c, rfl, row_set h3 _, (hG.trans hg3).trans (grown_setCell w3 ⟨b, 1, none⟩ _), own_far (own_far hO hg3 hlt) (grown_setCell w3 ⟨b, 1, none⟩ _) hlt⟩
      | true =>
        rw [hk1] at c1
        have hk2 : decide (s'.rest.head? = some 41) = true := by
          unfold moreP at hmf
          rw [hk1] at hmf
          simpa using hmf
        have CP := prefixes s'.rest 41 wr
        rw [hk2] at CP
        have HK := hid hk1
        clear hk1 hk2
        have hn3 := needP_len 41 s'
        have CN3 := need_any 41 b s' wr hs' (by omega)
        rw [listGo_stop el _ _ hmf] at hgo
        have HGO := hid hgo
        generalize hs3 : needP 41 s' = s3 at *
        have HS3 := hid hs3
        obtain ⟨r3, o3⟩ := s3
        cases o3 with
        | false =>
          clear hgo hs3 hmf hm hok
          go_wp2_with (first | (go_at_call 37; refine CP.mono ?_; rintro e w' ⟨rfl, hw⟩; obtain rfl : wr = w' := hw.symm) | (go_at_call 124; refine CN3.mono ?_; rintro e w3 ⟨rfl, h3, hg3⟩; have c31 := cell_row h3 (j := 1) rfl; have f31 := frozen_of_row _ b 1 _ _ h3) | fail)
          go_ret
          have e1 : listE (listGo el (s0.rest.length + 2) [] s0) = (l, ⟨r3, false⟩) := by unfold listE; rw [HGO.out]; simp only []; rw [HS3.out]; rfl
          rw [e1]
          exact ⟨A, c, rfl, row_set h3 _, (hG.trans hg3).trans (grown_setCell w3 ⟨b, 1, none⟩ _), own_far (own_far hO hg3 hlt) (grown_setCell w3 ⟨b, 1, none⟩ _) hlt⟩
        | true =>
          clear hgo hs3 hmf hm hok
          go_wp2_with (first | (go_at_call 37; refine CP.mono ?_; rintro e w' ⟨rfl, hw⟩; obtain rfl : wr = w' := hw.symm) | (go_at_call 124; refine CN3.mono ?_; rintro e w3 ⟨rfl, h3, hg3⟩; have c31 := cell_row h3 (j := 1) rfl; have c30 := cell_row h3 (j := 0) (v := sv r3) rfl; unfold sv at c30; have f31 := frozen_of_row _ b 1 _ _ h3) | fail)
          go_ret
          have e1 : listE (listGo el (s0.rest.length + 2) [] s0) = (l, ⟨r3, r3.isEmpty⟩) := by unfold listE; rw [HGO.out]; simp only []; rw [HS3.out]; rfl
          rw [e1]
          exact ⟨A, c, rfl, row_set h3 _, (hG.trans hg3).trans (grown_setCell w3 ⟨b, 1, none⟩ _), own_far (own_far hO hg3 hlt) (grown_setCell w3 ⟨b, 1, none⟩ _) hlt⟩
end Go.Proofs.YtnlobmepajakcaaGreatDoor
