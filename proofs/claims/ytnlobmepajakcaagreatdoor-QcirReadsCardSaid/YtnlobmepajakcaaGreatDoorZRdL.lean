/- What line of qcir's reader does; the condition: texts have at most 2^22 bytes. -/
import Derived.Test.YtnlobmepajakcaaGreatDoorZRdG
import Derived.Test.YtnlobmepajakcaaGreatDoorZRdX
set_option linter.unusedVariables false
set_option linter.unusedSimpArgs false
namespace Go.Proofs.YtnlobmepajakcaaGreatDoor
open Go.RowKit Go.Shelf

theorem otherL_eq (s : Scan) : otherL s = if wordP (takeP isLow s.rest).1 = 4 then outL ⟨(takeP isLow s.rest).2, s.ok⟩ else if wordP (takeP isLow s.rest).1 = 0 then .bad else blockL (wordP (takeP isLow s.rest).1) ⟨(takeP isLow s.rest).2, s.ok⟩ := by
  unfold otherL outL blockL
  simp only []
  split
  · generalize listP literalP ⟨(takeP isLow s.rest).2, s.ok⟩ = ls
    obtain ⟨l, q⟩ := ls
    rcases l with _ | ⟨x, _ | ⟨y, l⟩⟩ <;> rfl
  · rfl
theorem sp_nil : ∀ t : Bs, sp t = [] → t.all (fun c => c == 32) = true
  | [], _ => rfl
  | c :: r, h => by
    unfold sp at h
    rw [List.dropWhile_cons] at h
    by_cases hc : (c == 32) = true
    · rw [if_pos hc] at h
      rw [List.all_cons, hc, sp_nil r h]
      rfl
    · rw [if_neg hc] at h; cases h
theorem sp_ne {t : Bs} (h : blankB t = false) : ∃ c r, sp t = c :: r ∧ c ≠ 32 := by
  unfold blankB at h
  simp only [Bool.or_eq_false_iff] at h
  have h2 := h.2
  cases hs : sp t with
  | nil =>
    exfalso
    have := sp_nil t hs
    rw [this] at h2; cases h2
  | cons c r =>
    refine ⟨c, r, rfl, fun e => ?_⟩
    have := List.head?_dropWhile_not (fun c : UInt8 => c == 32) t
    unfold sp at hs
    rw [hs] at this
    simp [e] at this
theorem word_cases (wd : Bs) : wd = wOutput ∨ wd = wFree ∨ wd = wExists ∨ wd = wForall ∨ (wordP wd = 0 ∧ wd ≠ wOutput ∧ wd ≠ wFree ∧ wd ≠ wExists ∧ wd ≠ wForall) := by
  unfold wordP
  by_cases h1 : wd = wOutput
  · exact .inl h1
  · by_cases h2 : wd = wFree
    · exact .inr (.inl h2)
    · by_cases h3 : wd = wExists
      · exact .inr (.inr (.inl h3))
      · by_cases h4 : wd = wForall
        · exact .inr (.inr (.inr (.inl h4)))
        · right; right; right; right
          rw [if_neg h2, if_neg h3, if_neg h4, if_neg h1]
          exact ⟨rfl, h1, h2, h3, h4⟩
set_option maxRecDepth 100000 in
set_option maxHeartbeats 2000000 in
theorem line_any (n0 r no : Nat) (R : RS) (t : Bs) (w : World) (hR : Rdr w n0 r R no) (hE : Env w) (ht : t.length ≤ 4194304) (hbl : blankB t = false) (hno : no ≤ 4194305) :
    Calls Tryz.prog 41 #[.pointer (some ⟨r, 0, none⟩), .string ⟨t.toArray⟩, .int .i64 (no : Int)] w fun e w' =>
      e = .returned (.int .i64 (addL R no (scanL t)).1) ∧ Fr n0 r w w' ∧ ((addL R no (scanL t)).1 = 0 → Rdr w' n0 r (addL R no (scanL t)).2 (no + 1)) := by
  obtain ⟨c, rs, hsp, hc32⟩ := sp_ne hbl
  have hsl := sp_len t
  have CT := Tryz.strings_TrimLeft_one ⟨t.toArray⟩ 32 (by decide) w
  have e0 : Lib.trimLeftB (⟨t.toArray⟩ : ByteArray).data.toList 32 = c :: rs := hsp
  rw [e0] at CT
  obtain ⟨w1, hw1, -, -, z1, hB1, q1⟩ := new_block w #[sv (c :: rs), .bool true] 134
  unfold sv at hw1
  have h1 : ScanAt w1 w.heap.size ⟨c :: rs, true⟩ := q1
  have c0 := cell_row q1 (j := 0) (v := sv (c :: rs)) rfl
  unfold sv at c0
  have hE1 := hE.below hB1 hE.size
  have hF1 : Fr n0 r w w1 := Fr.below (hB1.mono hR.size)
  have hbt := byte_at (l := c :: rs) (j := 0) rfl
  have hlen : (c :: rs).length ≤ 4194304 := by rw [← hsp]; omega
  have hpos : (0 : Int) < ((c :: rs).length : Int) := by simp
  have hSC : scanL t = if isDig c = true then gateL ⟨c :: rs, true⟩ else otherL ⟨c :: rs, true⟩ := by
    unfold scanL
    simp only []
    rw [hsp]
    rfl
  have HSC := hid hSC
  have HT := fun (e : Ending) (W : World) (C : PLine) (hC : scanL t = C) (h : e = .returned (.int .i64 (addL R no C).1) ∧ Fr n0 r w1 W ∧ ((addL R no C).1 = 0 → Rdr W n0 r (addL R no C).2 (no + 1))) => (show e = .returned (.int .i64 (addL R no (scanL t)).1) ∧ Fr n0 r w W ∧ ((addL R no (scanL t)).1 = 0 → Rdr W n0 r (addL R no (scanL t)).2 (no + 1)) by rw [hC]; exact ⟨h.1, hF1.trans h.2.1, h.2.2⟩)
  clear hSC hsp e0
  by_cases hd : isDig c = true
  · have hd2 := isDig_iff.1 hd
    have h48 : (48 : Int) ≤ (c.toNat : Int) := by omega
    have h57 : (c.toNat : Int) ≤ 57 := by omega
    have CG := gate_any n0 r w.heap.size no R ⟨c :: rs, true⟩ w w1 hR hB1 (Nat.le_refl _) h1 hlen hE1 hno
    have HS2 := hid (show scanL t = gateL ⟨c :: rs, true⟩ by rw [HSC.out, if_pos hd])
    clear hd hd2
    generalize c :: rs = q at *
    go_enter Tryz.func41, Tryz.ntmps41
    go_wp2_with (first | (go_at_call 80; refine CT.mono ?_; rintro e w' ⟨rfl, hw⟩; obtain rfl : w = w' := hw.symm) | (go_at_call 81; refine CG.mono ?_; rintro e w2 ⟨rfl, hF2, hR2⟩) | fail)
    go_ret
    exact HT _ _ _ HS2.out ⟨rfl, hF2, hR2⟩
  · have hdf : isDig c = false := by simpa using hd
    have HS2 := hid (show scanL t = otherL ⟨c :: rs, true⟩ by rw [HSC.out, if_neg hd])
    have CW := word_any w.heap.size ⟨c :: rs, true⟩ w1 h1 (by simp only []; omega)
    have hGF : ∀ w2, w1.grownBy w2 (some w.heap.size) → Fr n0 r w1 w2 ∧ Below w.heap.size w w2 ∧ Env w2 := fun w2 hg =>
      ⟨(Fr.refl n0 r w1).grown (Nat.le_trans hR.size hB1.size) hg (fun k e => by cases e; exact .inr hR.size), hB1.grown hg hB1.size (fun k e => by cases e; exact Nat.le_refl _), hE1.grown hg (fun k e => by cases e; exact hE.size)⟩
    have hOT := otherL_eq ⟨c :: rs, true⟩
    have htl := takeP_len isLow (c :: rs)
    simp only [] at CW hOT
    generalize takeP isLow (c :: rs) = tk at *
    obtain ⟨wd, r3⟩ := tk
    simp only [] at CW hOT htl
    have hr3 : r3.length ≤ 4194304 := by omega
    have HT2 := fun (e : Ending) (W : World) (w2 : World) (C : PLine) (hg : w1.grownBy w2 (some w.heap.size)) (hC : scanL t = C) (h : e = .returned (.int .i64 (addL R no C).1) ∧ Fr n0 r w2 W ∧ ((addL R no C).1 = 0 → Rdr W n0 r (addL R no C).2 (no + 1))) => HT e W C hC ⟨h.1, (hGF w2 hg).1.trans h.2.1, h.2.2⟩
    have HNC : Hid ((c.toNat : Int) < 48 ∨ (48 : Int) ≤ (c.toNat : Int) ∧ (57 : Int) < (c.toNat : Int)) := hid (by
      have : ¬ (48 ≤ c.toNat ∧ c.toNat ≤ 57) := fun h => by rw [isDig_iff.2 h] at hdf; cases hdf
      omega)
    clear hdf hd HSC
    generalize c :: rs = q at *
    rcases word_cases wd with rfl | rfl | rfl | rfl | ⟨hw0, n1, n2, n3, n4⟩
    · have HS3 := hid (show scanL t = outL ⟨r3, true⟩ by rw [HS2.out, hOT, if_pos (by decide)])
      have CW2 : Calls Tryz.prog 82 #[.pointer (some ⟨w.heap.size, 0, none⟩)] w1 fun e w' => e = .returned (.string ⟨#[111, 117, 116, 112, 117, 116]⟩) ∧ ScanAt w' w.heap.size ⟨r3, true⟩ ∧ w1.grownBy w' (some w.heap.size) := CW
      clear CW hOT
      rcases HNC.out with h48 | ⟨h48, h57⟩
      · have h48d : decide ((48 : Int) ≤ (c.toNat : Int)) = false := decide_eq_false (by omega)
        clear h48
        go_enter Tryz.func41, Tryz.ntmps41
        go_wp2_with (first | (go_at_call 80; refine CT.mono ?_; rintro e w' ⟨rfl, hw⟩; obtain rfl : w = w' := hw.symm) | (go_at_call 82; refine CW2.mono ?_; rintro e w2 ⟨rfl, h2, hg⟩) | (go_at_call 83; refine (output_any n0 r w.heap.size no R ⟨r3, true⟩ w w2 hR (hGF w2 hg).2.1 (Nat.le_refl _) h2 hr3 (hGF w2 hg).2.2).mono ?_; rintro e w3 ⟨rfl, hF3, hR2⟩) | fail)
        go_ret
        exact HT2 _ _ w2 _ hg HS3.out ⟨rfl, hF3, fun h => (hR2 h).more (Nat.le_succ no)⟩
      · have h57d : decide ((c.toNat : Int) ≤ 57) = false := decide_eq_false (by omega)
        clear h57
        go_enter Tryz.func41, Tryz.ntmps41
        go_wp2_with (first | (go_at_call 80; refine CT.mono ?_; rintro e w' ⟨rfl, hw⟩; obtain rfl : w = w' := hw.symm) | (go_at_call 82; refine CW2.mono ?_; rintro e w2 ⟨rfl, h2, hg⟩) | (go_at_call 83; refine (output_any n0 r w.heap.size no R ⟨r3, true⟩ w w2 hR (hGF w2 hg).2.1 (Nat.le_refl _) h2 hr3 (hGF w2 hg).2.2).mono ?_; rintro e w3 ⟨rfl, hF3, hR2⟩) | fail)
        go_ret
        exact HT2 _ _ w2 _ hg HS3.out ⟨rfl, hF3, fun h => (hR2 h).more (Nat.le_succ no)⟩
    · have HS3 := hid (show scanL t = blockL 1 ⟨r3, true⟩ by rw [HS2.out, hOT, if_neg (by decide), if_neg (by decide)]; rfl)
      have CW2 : Calls Tryz.prog 82 #[.pointer (some ⟨w.heap.size, 0, none⟩)] w1 fun e w' => e = .returned (.string ⟨#[102, 114, 101, 101]⟩) ∧ ScanAt w' w.heap.size ⟨r3, true⟩ ∧ w1.grownBy w' (some w.heap.size) := CW
      clear CW hOT
      rcases HNC.out with h48 | ⟨h48, h57⟩
      · have h48d : decide ((48 : Int) ≤ (c.toNat : Int)) = false := decide_eq_false (by omega)
        clear h48
        go_enter Tryz.func41, Tryz.ntmps41
        go_wp2_with (first | (go_at_call 80; refine CT.mono ?_; rintro e w' ⟨rfl, hw⟩; obtain rfl : w = w' := hw.symm) | (go_at_call 82; refine CW2.mono ?_; rintro e w2 ⟨rfl, h2, hg⟩) | (go_at_call 84; refine (block1_any n0 r w.heap.size no R ⟨r3, true⟩ w w2 hR (hGF w2 hg).2.1 (Nat.le_refl _) h2 hr3 (hGF w2 hg).2.2 hno).mono ?_; rintro e w3 ⟨rfl, hF3, hR2⟩) | fail)
        go_ret
        exact HT2 _ _ w2 _ hg HS3.out ⟨rfl, hF3, hR2⟩
      · have h57d : decide ((c.toNat : Int) ≤ 57) = false := decide_eq_false (by omega)
        clear h57
        go_enter Tryz.func41, Tryz.ntmps41
        go_wp2_with (first | (go_at_call 80; refine CT.mono ?_; rintro e w' ⟨rfl, hw⟩; obtain rfl : w = w' := hw.symm) | (go_at_call 82; refine CW2.mono ?_; rintro e w2 ⟨rfl, h2, hg⟩) | (go_at_call 84; refine (block1_any n0 r w.heap.size no R ⟨r3, true⟩ w w2 hR (hGF w2 hg).2.1 (Nat.le_refl _) h2 hr3 (hGF w2 hg).2.2 hno).mono ?_; rintro e w3 ⟨rfl, hF3, hR2⟩) | fail)
        go_ret
        exact HT2 _ _ w2 _ hg HS3.out ⟨rfl, hF3, hR2⟩
    · have HS3 := hid (show scanL t = blockL 2 ⟨r3, true⟩ by rw [HS2.out, hOT, if_neg (by decide), if_neg (by decide)]; rfl)
      have CW2 : Calls Tryz.prog 82 #[.pointer (some ⟨w.heap.size, 0, none⟩)] w1 fun e w' => e = .returned (.string ⟨#[101, 120, 105, 115, 116, 115]⟩) ∧ ScanAt w' w.heap.size ⟨r3, true⟩ ∧ w1.grownBy w' (some w.heap.size) := CW
      clear CW hOT
      rcases HNC.out with h48 | ⟨h48, h57⟩
      · have h48d : decide ((48 : Int) ≤ (c.toNat : Int)) = false := decide_eq_false (by omega)
        clear h48
        go_enter Tryz.func41, Tryz.ntmps41
        go_wp2_with (first | (go_at_call 80; refine CT.mono ?_; rintro e w' ⟨rfl, hw⟩; obtain rfl : w = w' := hw.symm) | (go_at_call 82; refine CW2.mono ?_; rintro e w2 ⟨rfl, h2, hg⟩) | (go_at_call 84; refine (block2_any n0 r w.heap.size no R ⟨r3, true⟩ w w2 hR (hGF w2 hg).2.1 (Nat.le_refl _) h2 hr3 (hGF w2 hg).2.2 hno).mono ?_; rintro e w3 ⟨rfl, hF3, hR2⟩) | fail)
        go_ret
        exact HT2 _ _ w2 _ hg HS3.out ⟨rfl, hF3, hR2⟩
      · have h57d : decide ((c.toNat : Int) ≤ 57) = false := decide_eq_false (by omega)
        clear h57
        go_enter Tryz.func41, Tryz.ntmps41
        go_wp2_with (first | (go_at_call 80; refine CT.mono ?_; rintro e w' ⟨rfl, hw⟩; obtain rfl : w = w' := hw.symm) | (go_at_call 82; refine CW2.mono ?_; rintro e w2 ⟨rfl, h2, hg⟩) | (go_at_call 84; refine (block2_any n0 r w.heap.size no R ⟨r3, true⟩ w w2 hR (hGF w2 hg).2.1 (Nat.le_refl _) h2 hr3 (hGF w2 hg).2.2 hno).mono ?_; rintro e w3 ⟨rfl, hF3, hR2⟩) | fail)
        go_ret
        exact HT2 _ _ w2 _ hg HS3.out ⟨rfl, hF3, hR2⟩
    · have HS3 := hid (show scanL t = blockL 3 ⟨r3, true⟩ by rw [HS2.out, hOT, if_neg (by decide), if_neg (by decide)]; rfl)
      have CW2 : Calls Tryz.prog 82 #[.pointer (some ⟨w.heap.size, 0, none⟩)] w1 fun e w' => e = .returned (.string ⟨#[102, 111, 114, 97, 108, 108]⟩) ∧ ScanAt w' w.heap.size ⟨r3, true⟩ ∧ w1.grownBy w' (some w.heap.size) := CW
      clear CW hOT
      rcases HNC.out with h48 | ⟨h48, h57⟩
      · have h48d : decide ((48 : Int) ≤ (c.toNat : Int)) = false := decide_eq_false (by omega)
        clear h48
        go_enter Tryz.func41, Tryz.ntmps41
        go_wp2_with (first | (go_at_call 80; refine CT.mono ?_; rintro e w' ⟨rfl, hw⟩; obtain rfl : w = w' := hw.symm) | (go_at_call 82; refine CW2.mono ?_; rintro e w2 ⟨rfl, h2, hg⟩) | (go_at_call 84; refine (block3_any n0 r w.heap.size no R ⟨r3, true⟩ w w2 hR (hGF w2 hg).2.1 (Nat.le_refl _) h2 hr3 (hGF w2 hg).2.2 hno).mono ?_; rintro e w3 ⟨rfl, hF3, hR2⟩) | fail)
        go_ret
        exact HT2 _ _ w2 _ hg HS3.out ⟨rfl, hF3, hR2⟩
      · have h57d : decide ((c.toNat : Int) ≤ 57) = false := decide_eq_false (by omega)
        clear h57
        go_enter Tryz.func41, Tryz.ntmps41
        go_wp2_with (first | (go_at_call 80; refine CT.mono ?_; rintro e w' ⟨rfl, hw⟩; obtain rfl : w = w' := hw.symm) | (go_at_call 82; refine CW2.mono ?_; rintro e w2 ⟨rfl, h2, hg⟩) | (go_at_call 84; refine (block3_any n0 r w.heap.size no R ⟨r3, true⟩ w w2 hR (hGF w2 hg).2.1 (Nat.le_refl _) h2 hr3 (hGF w2 hg).2.2 hno).mono ?_; rintro e w3 ⟨rfl, hF3, hR2⟩) | fail)
        go_ret
        exact HT2 _ _ w2 _ hg HS3.out ⟨rfl, hF3, hR2⟩
    · have HS3 := hid (show scanL t = .bad by rw [HS2.out, hOT, if_neg (by rw [hw0]; decide), if_pos hw0])
      unfold sv at CW
      have b1 : (wd == [111, 117, 116, 112, 117, 116]) = false := beq_eq_false_iff_ne.2 n1
      have b2 : (wd == [102, 114, 101, 101]) = false := beq_eq_false_iff_ne.2 n2
      have b3 : (wd == [101, 120, 105, 115, 116, 115]) = false := beq_eq_false_iff_ne.2 n3
      have b4 : (wd == [102, 111, 114, 97, 108, 108]) = false := beq_eq_false_iff_ne.2 n4
      clear hOT hw0 n1 n2 n3 n4
      rcases HNC.out with h48 | ⟨h48, h57⟩
      · have h48d : decide ((48 : Int) ≤ (c.toNat : Int)) = false := decide_eq_false (by omega)
        clear h48
        go_enter Tryz.func41, Tryz.ntmps41
        go_wp2_with (first | (go_at_call 80; refine CT.mono ?_; rintro e w' ⟨rfl, hw⟩; obtain rfl : w = w' := hw.symm) | (go_at_call 82; refine CW.mono ?_; rintro e w2 ⟨rfl, h2, hg⟩) | fail)
        go_ret
        exact HT2 _ _ w2 _ hg HS3.out ⟨rfl, Fr.refl n0 r w2, fun h => absurd h (by simp [addL])⟩
      · have h57d : decide ((c.toNat : Int) ≤ 57) = false := decide_eq_false (by omega)
        clear h57
        go_enter Tryz.func41, Tryz.ntmps41
        go_wp2_with (first | (go_at_call 80; refine CT.mono ?_; rintro e w' ⟨rfl, hw⟩; obtain rfl : w = w' := hw.symm) | (go_at_call 82; refine CW.mono ?_; rintro e w2 ⟨rfl, h2, hg⟩) | fail)
        go_ret
        exact HT2 _ _ w2 _ hg HS3.out ⟨rfl, Fr.refl n0 r w2, fun h => absurd h (by simp [addL])⟩
end Go.Proofs.YtnlobmepajakcaaGreatDoor
