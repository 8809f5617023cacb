/- What the scanner of qcir does: word, number, sign, need, literal; the condition: texts have at most 2^47 bytes. -/
import Derived.Test.YtnlobmepajakcaaGreatDoorZScan
set_option linter.unusedVariables false
set_option linter.unusedSimpArgs false
namespace Go.Proofs.YtnlobmepajakcaaGreatDoor
open Go.RowKit Go.Shelf

/-- What the package-level variables hold. -/
structure Env (w : World) : Prop where
  size : 9 ≤ w.heap.size
  syn : ∃ tp p, w.var? Tryz.prog "strconv.ErrSyntax" = some #[.iface tp p]
  rng : ∃ tp p, w.var? Tryz.prog "strconv.ErrRange" = some #[.iface tp p]
  tab : Lib.TabIs Tryz.prog w "internal/strconv.uint64pow10" .u64 Lib.pow10Tab
  max : ∃ m, w.cell? ⟨1, 0, none⟩ = some (.int .i64 m)
  words : ∃ t f, w.heap[0]? = some (.cells #[sv [], sv wAnd, sv wOr, sv wXor, sv wIte] t f)
theorem var_of_heap {w w' : World} {name : String} {g : Nat} (hg : Tryz.prog.globalNamed name = some g) (h : w'.heap[g]? = w.heap[g]?) : w'.var? Tryz.prog name = w.var? Tryz.prog name := by
  unfold World.var?
  rw [hg]
  simp only [Option.bind_some]
  rw [h]
theorem Env.heap {w w' : World} (h : Env w) (hk : ∀ i, i < 9 → w'.heap[i]? = w.heap[i]?) (hs : 9 ≤ w'.heap.size) : Env w' := by
  refine ⟨hs, ?_, ?_, ?_, ?_, ?_⟩
  · rw [var_of_heap (g := 5) (by kernel_rfl) (hk 5 (by decide))]; exact h.syn
  · rw [var_of_heap (g := 6) (by kernel_rfl) (hk 6 (by decide))]; exact h.rng
  · have := h.tab
    unfold Lib.TabIs at this ⊢
    rw [var_of_heap (g := 2) (by kernel_rfl) (hk 2 (by decide))]; exact this
  · have := h.max
    obtain ⟨m, hm⟩ := this
    refine ⟨m, ?_⟩
    unfold World.cell? at hm ⊢
    rw [hk 1 (by decide)]
    exact hm
  · rw [hk 0 (by decide)]; exact h.words
theorem Env.grown {w w' : World} {row : Option Nat} (h : Env w) (hg : w.grownBy w' row) (hr : ∀ r, row = some r → 9 ≤ r) : Env w' :=
  h.heap (fun i hi => hg.block i (Nat.lt_of_lt_of_le hi h.size) (by intro e; have := hr i e.symm; omega)) (Nat.le_trans h.size hg.size)
theorem Env.below {w w' : World} {B : Nat} (h : Env w) (hb : Below B w w') (hB : 9 ≤ B) : Env w' :=
  h.heap (fun i hi => hb.block i (Nat.lt_of_lt_of_le hi hB)) (Nat.le_trans h.size hb.size)

theorem parse_dig (l : Bs) : ∀ (acc : Nat), acc < 18446744073709551616 → l.all isDig = true →
    Lib.parseUint10 acc l = if decV acc l < 18446744073709551616 then .ok (decV acc l) else .range := by
  induction l with
  | nil =>
    intro acc ha _
    unfold decV Lib.parseUint10
    rw [if_pos ha]
  | cons c r ih =>
    intro acc ha hd
    simp only [List.all_cons, Bool.and_eq_true] at hd
    have hc := isDig_iff.1 hd.1
    have hle := decV_ge r (acc * 10 + (c.toNat - 48))
    unfold decV Lib.parseUint10
    rw [if_pos hc]
    by_cases h1 : 1844674407370955162 ≤ acc
    · rw [if_pos h1, if_neg (by omega)]
    · rw [if_neg h1]
      by_cases h2 : 18446744073709551616 ≤ acc * 10 + (c.toNat - 48)
      · rw [if_pos h2, if_neg (by omega)]
      · rw [if_neg h2]
        exact ih _ (by omega) hd.2
theorem atoi_dig {l : Bs} (hl : l ≠ []) (hd : l.all isDig = true) :
    Lib.atoiAll l = if decV 0 l < 9223372036854775808 then .ok (decV 0 l : Int) else .range := by
  cases l with
  | nil => exact absurd rfl hl
  | cons c r =>
    have hd2 := hd
    simp only [List.all_cons, Bool.and_eq_true] at hd2
    have hc := isDig_iff.1 hd2.1
    have e : Lib.parseMag (c :: r) = Lib.parseUint10 0 (c :: r) := by unfold Lib.parseMag; rw [if_neg (by simp)]
    unfold Lib.atoiAll
    simp only []
    rw [if_neg (by omega), e, parse_dig (c :: r) 0 (by omega) hd]
    by_cases h1 : decV 0 (c :: r) < 18446744073709551616
    · rw [if_pos h1]
      simp only []
      by_cases h2 : decV 0 (c :: r) < 9223372036854775808
      · rw [if_pos h2, if_neg (by omega), if_neg (by omega), if_neg (by omega)]
      · rw [if_neg h2, if_pos (by omega)]
    · rw [if_neg h1, if_neg (by omega)]
theorem twd_all (p : UInt8 → Bool) : ∀ l : Bs, (l.takeWhile p).all p = true
  | [] => rfl
  | c :: r => by
    rw [List.takeWhile_cons]
    split
    · rw [List.all_cons, twd_all p r]; simp [*]
    · rfl
theorem ScanAt.moved {w w' : World} {b : Nat} {s : Scan} {row : Option Nat} (h : ScanAt w b s) (hg : w.grownBy w' row) (hne : row ≠ some b) : ScanAt w' b s := row_grown h hg hne
theorem ScanAt.lt {w : World} {b : Nat} {s : Scan} (h : ScanAt w b s) : b < w.heap.size := by
  unfold ScanAt at h
  exact (Array.getElem?_eq_some_iff.1 h).1
theorem takeP_len (p : UInt8 → Bool) (l : Bs) : (takeP p l).2.length ≤ l.length := by
  unfold takeP sp
  exact Nat.le_trans (List.dropWhile_sublist _).length_le (List.dropWhile_sublist _).length_le

set_option maxRecDepth 100000 in
theorem word_any (b : Nat) (s : Scan) (w : World) (h : ScanAt w b s) (hl : s.rest.length ≤ 140737488355328) :
    Calls Tryz.prog 82 #[.pointer (some ⟨b, 0, none⟩)] w fun e w' => e = .returned (sv (takeP isLow s.rest).1) ∧ ScanAt w' b ⟨(takeP isLow s.rest).2, s.ok⟩ ∧ w.grownBy w' (some b) := by
  have CT := take_low b s w h hl
  go_enter Tryz.func82, Tryz.ntmps82
  go_wp2_with (first | (go_at_call 129; refine CT.mono ?_; rintro e w1 ⟨rfl, h1, hg⟩) | fail)
  go_ret
  exact ⟨rfl, h1, hg⟩
set_option maxRecDepth 100000 in
set_option maxHeartbeats 1000000 in
theorem number_any (b : Nat) (s : Scan) (w : World) (h : ScanAt w b s) (hl : s.rest.length ≤ 140737488355328) (hE : Env w) (hb : 9 ≤ b) :
    Calls Tryz.prog 123 #[.pointer (some ⟨b, 0, none⟩)] w fun e w' => e = .returned (.int .i64 (numberP s).1) ∧ ScanAt w' b (numberP s).2 ∧ w.grownBy w' (some b) := by
  have CT := take_dig b s w h hl
  have hle := tw_le isDig s.rest
  have hT : (takeP isDig s.rest).1 = s.rest.takeWhile isDig := rfl
  rw [hT] at CT
  have hD := twd_all isDig s.rest
  generalize ht : s.rest.takeWhile isDig = t at *
  have hG : ∀ (w1 w2 : World), w.grownBy w1 (some b) → Below w1.heap.size w1 w2 → w.grownBy w2 (some b) := fun w1 w2 h1 h2 => h1.trans (grown_of_below h2 _)
  have hlt := h.lt
  have hlim : (⟨t.toArray⟩ : ByteArray).size ≤ 281474976710656 := by show t.length ≤ _; omega
  have hmax : (⟨t.toArray⟩ : ByteArray).size ≤ 9223372036854775806 := by show t.length ≤ _; omega
  have F : ∀ (w1 w2 : World), ScanAt w1 b ⟨(takeP isDig s.rest).2, s.ok⟩ → w.grownBy w1 (some b) → Below w1.heap.size w1 w2 → ScanAt w2 b ⟨(takeP isDig s.rest).2, s.ok⟩ ∧ w.grownBy w2 (some b) :=
    fun w1 w2 h1 h2 h3 => ⟨row_below h1 h3, h2.trans (grown_of_below h3 _)⟩
  unfold sv at CT
  have HE : ∀ w1, w.grownBy w1 (some b) → Env w1 := fun w1 hg => hE.grown hg (by intro r e; cases e; exact hb)
  by_cases hn : t = []
  · have HP : numberP s = (1, ⟨(takeP isDig s.rest).2, false⟩) := by unfold numberP takeP; rw [ht, hn]; rfl
    have HA := hid (show (⟨t.toArray⟩ : ByteArray).data.toList = [] by show t = _; exact hn)
    rw [HP]
    have HH := hid (And.intro HE F)
    clear HE F hG hE hD hle hT ht HP hn
    go_enter Tryz.func123, Tryz.ntmps123
    go_wp2_with (first | (go_at_call 129; refine CT.mono ?_; rintro e w1 ⟨rfl, h1, hg⟩) | fail)
    go_at_call 143
    obtain ⟨tp, p, hv⟩ := (HH.out.1 w1 hg).syn
    refine (Tryz.strconv_Atoi_syntax_var ⟨t.toArray⟩ hlim HA.out tp p w1 hv).mono ?_
    rintro e w2 ⟨N, rfl, hN, -, h3⟩
    obtain ⟨h2, hg2⟩ := HH.out.2 w1 w2 h1 hg h3
    clear hv
    clear h3 hN HH h1 hg CT hlim hmax HA
    have c1 := cell_row h2 (j := 1) rfl
    have f1 := frozen_of_row _ b 1 _ _ h2
    go_wp2_with fail
    go_ret
    exact ⟨rfl, row_set h2 _, hg2.trans (grown_setCell w2 ⟨b, 1, none⟩ _)⟩
  · obtain ⟨c, r, rfl⟩ := List.exists_cons_of_ne_nil hn
    have hbt := byte_at (l := c :: r) (j := 0) rfl
    have hpos : (0 : Int) < ((c :: r).length : Int) := by simp
    have HN : numberP s = match numV (c :: r) with
      | some n => ((n : Int), ⟨(takeP isDig s.rest).2, s.ok⟩)
      | none => (1, ⟨(takeP isDig s.rest).2, false⟩) := by unfold numberP; rw [ht]; rfl
    have HV : numV (c :: r) = if c = 48 then none else if 65536 < decV 0 (c :: r) then none else some (decV 0 (c :: r)) := by
      unfold numV
      rw [if_neg (by simp), List.head?_cons]
      simp only [Option.some.injEq]
    have HA := atoi_dig (l := c :: r) (by simp) hD
    rw [HV] at HN
    generalize hdv : decV 0 (c :: r) = dv at *
    by_cases hbig : dv < 9223372036854775808
    · rw [if_pos hbig] at HA
      have HA' : Lib.atoiAll (⟨(c :: r).toArray⟩ : ByteArray).data.toList = .ok (dv : Int) := HA
      have HH := hid (And.intro HE F)
      have hlen : (0 : Int) < ((c :: r).length : Int) := hpos
      by_cases h48 : c = 48
      · have HP : numberP s = (1, ⟨(takeP isDig s.rest).2, false⟩) := by rw [HN, if_pos h48]
        rw [HP]
        have hq : c.toNat = 48 := by rw [h48]; rfl
        clear HE F hG hE hD hle hT ht HP hn HN HA HV hdv h48
        generalize c :: r = t at *
        go_enter Tryz.func123, Tryz.ntmps123
        go_wp2_with (first | (go_at_call 129; refine CT.mono ?_; rintro e w1 ⟨rfl, h1, hg⟩) | fail)
        go_at_call 143
        refine (Tryz.strconv_Atoi_ok _ hmax _ HA' w1).mono ?_
        rintro e w2 ⟨rfl, h3⟩
        have h3 : Below w1.heap.size w1 w2 := by
          rcases h3 with rfl | ⟨t, rfl⟩
          · exact Below.refl _ _
          · exact Lib.bytesWorld_below _ _ _
        obtain ⟨h2, hg2⟩ := HH.out.2 w1 w2 h1 hg h3
        clear h3 HH h1 hg CT hlim hmax HA'
        have c1 := cell_row h2 (j := 1) rfl
        have f1 := frozen_of_row _ b 1 _ _ h2
        go_wp2_with fail
        go_ret
        exact ⟨rfl, row_set h2 _, hg2.trans (grown_setCell w2 ⟨b, 1, none⟩ _)⟩
      · have hq : ((c.toNat : Int) == 48) = false := by
          rw [beq_eq_false_iff_ne]
          exact fun e => h48 (UInt8.toNat_inj.1 (show c.toNat = (48 : UInt8).toNat by show c.toNat = 48; omega))
        by_cases hov : 65536 < dv
        · have HP : numberP s = (1, ⟨(takeP isDig s.rest).2, false⟩) := by rw [HN, if_neg h48, if_pos hov]
          rw [HP]
          have hq2 : decide ((65536 : Int) < (dv : Int)) = true := decide_eq_true (by omega)
          have hq3 : (65536 : Int) < (dv : Int) := by omega
          clear HE F hG hE hD hle hT ht HP hn HN HA HV hdv h48 hov
          generalize c :: r = t at *
          go_enter Tryz.func123, Tryz.ntmps123
          go_wp2_with (first | (go_at_call 129; refine CT.mono ?_; rintro e w1 ⟨rfl, h1, hg⟩) | fail)
          go_at_call 143
          refine (Tryz.strconv_Atoi_ok _ hmax _ HA' w1).mono ?_
          rintro e w2 ⟨rfl, h3⟩
          have h3 : Below w1.heap.size w1 w2 := by
            rcases h3 with rfl | ⟨t, rfl⟩
            · exact Below.refl _ _
            · exact Lib.bytesWorld_below _ _ _
          obtain ⟨h2, hg2⟩ := HH.out.2 w1 w2 h1 hg h3
          clear h3 HH h1 hg CT hlim hmax HA'
          have c1 := cell_row h2 (j := 1) rfl
          have f1 := frozen_of_row _ b 1 _ _ h2
          go_wp2_with fail
          go_ret
          exact ⟨rfl, row_set h2 _, hg2.trans (grown_setCell w2 ⟨b, 1, none⟩ _)⟩
        · have HP : numberP s = ((dv : Int), ⟨(takeP isDig s.rest).2, s.ok⟩) := by rw [HN, if_neg h48, if_neg hov]
          rw [HP]
          have hq2 : decide ((65536 : Int) < (dv : Int)) = false := decide_eq_false (by omega)
          clear HE F hG hE hD hle hT ht HP hn HN HA HV hdv h48 hov
          generalize c :: r = t at *
          go_enter Tryz.func123, Tryz.ntmps123
          go_wp2_with (first | (go_at_call 129; refine CT.mono ?_; rintro e w1 ⟨rfl, h1, hg⟩) | fail)
          go_at_call 143
          refine (Tryz.strconv_Atoi_ok _ hmax _ HA' w1).mono ?_
          rintro e w2 ⟨rfl, h3⟩
          have h3 : Below w1.heap.size w1 w2 := by
            rcases h3 with rfl | ⟨t, rfl⟩
            · exact Below.refl _ _
            · exact Lib.bytesWorld_below _ _ _
          obtain ⟨h2, hg2⟩ := HH.out.2 w1 w2 h1 hg h3
          clear h3 HH h1 hg CT hlim hmax HA'
          go_wp2_with fail
          go_ret
          exact ⟨rfl, h2, hg2⟩
    · rw [if_neg hbig] at HA
      have HP : numberP s = (1, ⟨(takeP isDig s.rest).2, false⟩) := by
        rw [HN]
        by_cases h48 : c = 48
        · rw [if_pos h48]
        · rw [if_neg h48, if_pos (by omega)]
      rw [HP]
      have HA' : Lib.atoiAll (⟨(c :: r).toArray⟩ : ByteArray).data.toList = .range := HA
      have HH := hid (And.intro HE F)
      clear HE F hG hE hD hle hT ht HP hn HN HA hbt hpos HV hdv hbig
      generalize c :: r = t at *
      go_enter Tryz.func123, Tryz.ntmps123
      go_wp2_with (first | (go_at_call 129; refine CT.mono ?_; rintro e w1 ⟨rfl, h1, hg⟩) | fail)
      go_at_call 143
      obtain ⟨tp, p, hv⟩ := (HH.out.1 w1 hg).rng
      refine (Tryz.strconv_Atoi_range_var _ hlim HA' tp p w1 hv).mono ?_
      rintro e w2 ⟨N, rfl, hN, -, h3⟩
      obtain ⟨h2, hg2⟩ := HH.out.2 w1 w2 h1 hg h3
      clear hv
      clear h3 hN HH h1 hg CT hlim hmax HA'
      have c1 := cell_row h2 (j := 1) rfl
      have f1 := frozen_of_row _ b 1 _ _ h2
      go_wp2_with fail
      go_ret
      exact ⟨rfl, row_set h2 _, hg2.trans (grown_setCell w2 ⟨b, 1, none⟩ _)⟩
theorem prefix_one (l : Bs) (c : UInt8) : Lib.hasPrefix (⟨l.toArray⟩ : ByteArray).data.toList (⟨#[c]⟩ : ByteArray).data.toList = decide (l.head? = some c) := by
  show [c].isPrefixOf l = _
  cases l with
  | nil => simp [List.isPrefixOf]
  | cons x r =>
    simp only [List.isPrefixOf, List.head?_cons, Option.some.injEq, Bool.and_true]
    by_cases h : c = x
    · subst h; simp
    · have h2 : ¬ x = c := fun e => h e.symm
      simp [h, h2]
theorem signP_len (c : UInt8) (l : Bs) : (signP c l).2.length ≤ l.length := by
  unfold signP sp
  split
  · exact Nat.le_trans (List.dropWhile_sublist _).length_le (by simp)
  · exact Nat.le_refl _
theorem prefixes (l : Bs) (c : UInt8) (w : World) : Calls Tryz.prog 37 #[.string ⟨l.toArray⟩, .string ⟨#[c]⟩] w fun e w' => e = .returned (.bool (decide (l.head? = some c))) ∧ w' = w := by
  have H := Tryz.strings_HasPrefix ⟨l.toArray⟩ ⟨#[c]⟩ w
  rw [prefix_one] at H
  exact H
set_option maxRecDepth 100000 in
theorem sign_any (c : UInt8) (b : Nat) (s : Scan) (w : World) (h : ScanAt w b s) (hl : s.rest.length ≤ 140737488355328) :
    Calls Tryz.prog 144 #[.pointer (some ⟨b, 0, none⟩), .string ⟨#[c]⟩] w fun e w' => e = .returned (.bool (signP c s.rest).1) ∧ ScanAt w' b ⟨(signP c s.rest).2, s.ok⟩ ∧ w.grownBy w' (some b) := by
  have c0 := cell_row h (j := 0) (v := sv s.rest) rfl
  unfold sv at c0
  have CP := prefixes s.rest c w
  by_cases hc : s.rest.head? = some c
  · have HP : signP c s.rest = (true, sp s.rest.tail) := by unfold signP; rw [if_pos hc]
    rw [HP]
    rw [decide_eq_true hc] at CP
    have hpos : (1 : Int) ≤ (s.rest.length : Int) := by
      cases hr : s.rest with
      | nil => rw [hr] at hc; simp at hc
      | cons x r => simp; omega
    have x1 : (⟨s.rest.toArray⟩ : ByteArray).extract 1 s.rest.length = ⟨s.rest.tail.toArray⟩ := by rw [ex_drop _ _ _ rfl, List.drop_one]
    have f0 := frozen_of_row _ b 0 _ _ h
    have hpn : 1 ≤ s.rest.length := by omega
    clear hc HP
    go_enter Tryz.func144, Tryz.ntmps144
    go_wp2_with (first | (go_at_call 37; refine CP.mono ?_; rintro e w' ⟨rfl, hw⟩; obtain rfl : w = w' := hw.symm) | (go_at_call 80; refine (Tryz.strings_TrimLeft_one _ 32 (by decide) _).mono ?_; rintro e w' ⟨rfl, hw⟩; obtain rfl : w = w' := hw.symm) | fail)
    go_ret
    exact ⟨rfl, row_set h _, grown_setCell w ⟨b, 0, none⟩ _⟩
  · have HP : signP c s.rest = (false, s.rest) := by unfold signP; rw [if_neg hc]
    rw [HP]
    rw [decide_eq_false hc] at CP
    clear hc HP
    go_enter Tryz.func144, Tryz.ntmps144
    go_wp2_with (first | (go_at_call 37; refine CP.mono ?_; rintro e w' ⟨rfl, hw⟩; obtain rfl : w = w' := hw.symm) | fail)
    go_ret
    exact ⟨rfl, h, World.grownBy.refl _ _⟩
set_option maxRecDepth 100000 in
theorem need_any (c : UInt8) (b : Nat) (s : Scan) (w : World) (h : ScanAt w b s) (hl : s.rest.length ≤ 140737488355328) :
    Calls Tryz.prog 124 #[.pointer (some ⟨b, 0, none⟩), .string ⟨#[c]⟩] w fun e w' => e = .returned (.tuple #[]) ∧ ScanAt w' b (needP c s) ∧ w.grownBy w' (some b) := by
  have CS := sign_any c b s w h hl
  unfold needP
  generalize signP c s.rest = q at *
  obtain ⟨q1, q2⟩ := q
  simp only [] at CS ⊢
  cases q1 with
  | true =>
    go_enter Tryz.func124, Tryz.ntmps124
    go_wp2_with (first | (go_at_call 144; refine CS.mono ?_; rintro e w1 ⟨rfl, h1, hg⟩; have c1 := cell_row h1 (j := 1) rfl; have f1 := frozen_of_row _ b 1 _ _ h1) | fail)
    go_end0
    exact ⟨rfl, row_set h1 _, hg.trans (grown_setCell w1 ⟨b, 1, none⟩ _)⟩
  | false =>
    go_enter Tryz.func124, Tryz.ntmps124
    go_wp2_with (first | (go_at_call 144; refine CS.mono ?_; rintro e w1 ⟨rfl, h1, hg⟩; have c1 := cell_row h1 (j := 1) rfl; have f1 := frozen_of_row _ b 1 _ _ h1) | fail)
    go_end0
    exact ⟨rfl, row_set h1 _, hg.trans (grown_setCell w1 ⟨b, 1, none⟩ _)⟩
theorem w64 (n : Int) (h : -9223372036854775808 ≤ n ∧ n ≤ 9223372036854775807) : wrap64 n = n := by unfold wrap64; omega
theorem numberP_bound (s : Scan) : 0 ≤ (numberP s).1 ∧ (numberP s).1 ≤ 65536 := by
  unfold numberP numV
  generalize s.rest.takeWhile isDig = t
  split
  · rename_i n h
    split at h
    · cases h
    · split at h
      · cases h
      · split at h
        · cases h
        · injection h with h
          subst h
          simp only []
          omega
  · simp
theorem literalP_bound (s : Scan) : -65536 ≤ (literalP s).1 ∧ (literalP s).1 ≤ 65536 := by
  unfold literalP
  split
  · have := numberP_bound ⟨(signP 45 s.rest).2, s.ok⟩
    simp only []
    omega
  · have := numberP_bound s
    omega
theorem numberP_len (s : Scan) : (numberP s).2.rest.length ≤ s.rest.length := by
  have := takeP_len isDig s.rest
  unfold numberP
  split <;> exact this
theorem literalP_len (s : Scan) : (literalP s).2.rest.length ≤ s.rest.length := by
  unfold literalP
  split
  · exact Nat.le_trans (numberP_len _) (signP_len 45 s.rest)
  · exact numberP_len s
theorem needP_len (c : UInt8) (s : Scan) : (needP c s).rest.length ≤ s.rest.length := signP_len c s.rest
set_option maxRecDepth 100000 in
theorem literal_any (b : Nat) (s : Scan) (w : World) (h : ScanAt w b s) (hl : s.rest.length ≤ 140737488355328) (hE : Env w) (hb : 9 ≤ b) :
    Calls Tryz.prog 127 #[.pointer (some ⟨b, 0, none⟩)] w fun e w' => e = .returned (.int .i64 (literalP s).1) ∧ ScanAt w' b (literalP s).2 ∧ w.grownBy w' (some b) := by
  have CS := sign_any 45 b s w h hl
  have hq := signP_len 45 s.rest
  have F : ∀ w1, w.grownBy w1 (some b) → Env w1 := fun w1 hg => hE.grown hg (by intro r e; cases e; exact hb)
  have hs2 : (signP 45 s.rest).1 = false → (signP 45 s.rest).2 = s.rest := by unfold signP; split <;> simp
  unfold literalP
  generalize signP 45 s.rest = q at *
  obtain ⟨q1, q2⟩ := q
  simp only [] at CS hq hs2 ⊢
  cases q1 with
  | true =>
    rw [if_pos rfl]
    go_enter Tryz.func127, Tryz.ntmps127
    go_wp2_with (first | (go_at_call 144; refine CS.mono ?_; rintro e w1 ⟨rfl, h1, hg⟩) | (go_at_call 123; refine (number_any b _ w1 h1 (by exact Nat.le_trans hq hl) (F w1 hg) hb).mono ?_; rintro e w2 ⟨rfl, h2, hg2⟩) | fail)
    go_ret
    have hb1 := numberP_bound ⟨q2, s.ok⟩
    refine ⟨?_, h2, hg.trans hg2⟩
    show Ending.returned (.int .i64 (wrap64 (-(numberP ⟨q2, s.ok⟩).1))) = _
    rw [w64 _ ⟨by omega, by omega⟩]
  | false =>
    rw [if_neg (by simp)]
    obtain rfl := hs2 rfl
    go_enter Tryz.func127, Tryz.ntmps127
    go_wp2_with (first | (go_at_call 144; refine CS.mono ?_; rintro e w1 ⟨rfl, h1, hg⟩) | (go_at_call 123; refine (number_any b _ w1 h1 (by exact Nat.le_trans hq hl) (F w1 hg) hb).mono ?_; rintro e w2 ⟨rfl, h2, hg2⟩) | fail)
    go_ret
    exact ⟨rfl, h2, hg.trans hg2⟩
end Go.Proofs.YtnlobmepajakcaaGreatDoor
