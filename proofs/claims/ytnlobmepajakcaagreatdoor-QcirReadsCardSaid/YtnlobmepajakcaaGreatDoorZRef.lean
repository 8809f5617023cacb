/- What the document's small functions of circ do; the condition: numbers are numbers. -/
import Derived.Test.YtnlobmepajakcaaGreatDoorZPlain
import Derived.Deep.AppendLies
set_option linter.unusedVariables false
set_option linter.unusedSimpArgs false
namespace Go.Proofs.YtnlobmepajakcaaGreatDoor
open Go.RowKit Go.Shelf

theorem drop_ne {xs ys : List Int} {j : Nat} {x y : Int} (hx : xs[j]? = some x) (hy : ys[j]? = some y) (h : x ≠ y) : decide (xs = ys) = false := by
  rw [decide_eq_false_iff_not]; intro e; rw [e] at hx; rw [hx] at hy; injection hy with hy; exact h hy
theorem Ints_any (v1 v2 : Value) (xs ys : List Int) (w : World) (h1 : IntsAt w v1 xs) (h2 : IntsAt w v2 ys) :
    Calls Tryz.prog 33 #[v1, v2] w fun e w' => e = .returned (.bool (decide (xs = ys))) ∧ Below w.heap.size w w' := by
  obtain ⟨A, c, rfl, hlc, hcm⟩ := h1.form
  obtain ⟨A2, c2, rfl, hlc2, hcm2⟩ := h2.form
  by_cases hl : xs.length = ys.length
  · have hz : ((xs.length : Int) != (ys.length : Int)) = false := by simp [hl]
    have HL := hid hl
    clear hl
    go_enter Tryz.func33, Tryz.ntmps33
    go_wp2_with fail
    go_loopg [5] xs.length (fun gg s5 wr => ∃ j : Nat, j ≤ xs.length ∧ xs.length - j ≤ gg ∧ s5 = .int .i64 j ∧ Below w.heap.size w wr ∧ Aside (xs.take j = ys.take j))
    case atStart => exact ⟨0, Nat.zero_le _, by omega, rfl, Below.refl _ _, rfl⟩
    case round =>
      obtain ⟨j, hj, hg, rfl, hB, hT⟩ := hrel
      by_cases hlt : j < xs.length
      · obtain ⟨x, hx, -, -⟩ := nth hlt
        obtain ⟨y, hy, -, -⟩ := nth (show j < ys.length by rw [← HL.out]; exact hlt)
        obtain ⟨b, off, rfl, hcx, -⟩ := (h1.keep (keeps_below hB)).at_ j x hx
        obtain ⟨b2, off2, rfl, hcy, -⟩ := (h2.keep (keeps_below hB)).at_ j y hy
        have hltz : (j : Int) < (xs.length : Int) := by omega
        have hltz2 : (j : Int) < (ys.length : Int) := by rw [← HL.out]; omega
        have hj0 : 0 ≤ (j : Int) := by omega
        have g1 := fun p => cell_since hcx p
        have g2 := fun p => cell_since hcy p
        have HXY := hid (And.intro hx hy)
        have HT := hid hT
        clear hx hy hT
        go_wp2_with fail
        refine region_quiet (by kernel_rfl) (by kernel_rfl) ?_
        repeat (first | go_big_quiet_step (fail) | quiet_step (fail))
        refine wpQuiet_nil ?_
        rintro W2 ⟨pw, hW2⟩
        have hB2 : Below wr.heap.size wr W2 := by rw [hW2]; exact since_below wr pw
        clear hW2 g1 g2
        have hB3 := below_then hB hB.size hB2
        by_cases hne : x = y
        · have hz2 : (x != y) = false := by simp [hne]
          have HN := hid hne
          clear hne
          go_wp2_with fail
          go_roundg (xs.length - (j + 1))
          case measure => omega
          case rel =>
            refine ⟨j + 1, by omega, by omega, by go_num, hB3, ?_⟩
            show xs.take (j + 1) = ys.take (j + 1)
            rw [take_snoc HXY.out.1, take_snoc HXY.out.2, HT.out, HN.out]
        · have hz2 : (x != y) = true := by simp [hne]
          have HN := hid hne
          clear hne
          go_wp2_with fail
          go_ret
          exact ⟨ret_bool (drop_ne HXY.out.1 HXY.out.2 HN.out).symm, hB3⟩
      · have hltz : ¬ (j : Int) < (xs.length : Int) := by omega
        have he : xs = ys := by
          have := hT
          rw [List.take_of_length_le (by omega : xs.length ≤ j), List.take_of_length_le (by have := HL.out; omega : ys.length ≤ j)] at this
          exact this
        have HE := hid he
        clear he hT
        go_wp2_with fail
        go_ret
        exact ⟨ret_bool (decide_eq_true HE.out).symm, hB⟩
  · have hz : ((xs.length : Int) != (ys.length : Int)) = true := by simp; omega
    have HL := hid hl
    clear hl
    go_enter Tryz.func33, Tryz.ntmps33
    go_wp2_with fail
    go_ret
    exact ⟨ret_bool (by symm; rw [decide_eq_false_iff_not]; intro e; exact HL.out (by rw [e])), Below.refl _ _⟩

/-- The reference's Abs. -/
def absR (l : Int) : Int := if l < 0 then (if l = -9223372036854775808 then 0 else -l) else l
theorem absR_any (l : Int) (w : World) (h : I64 l) : Calls Tryz.prog 54 #[.int .i64 l] w fun e w' => e = .returned (.int .i64 (absR l)) ∧ w' = w := by
  unfold I64 at h
  by_cases h0 : l < 0
  · by_cases h1 : l = -9223372036854775808
    · subst h1
      go_enter Tryz.func54, Tryz.ntmps54
      go_wp2
      go_ret
      exact ⟨ret_int (by first | decide +kernel | (simp [absR, wrap64]; done) | (unfold wrap64 absR; omega)), rfl⟩
    · have hw : IntKind.i64.wrap (-l) = -l := IntWalk.i64_in _ (by omega)
      have HH := hid h1
      clear h1
      go_enter Tryz.func54, Tryz.ntmps54
      go_wp2
      all_goals
        go_ret
        exact ⟨ret_int (by unfold absR; rw [if_pos h0, if_neg HH.out]; omega), rfl⟩
  · have hd : decide (l < 0) = false := decide_eq_false h0
    have HH := hid h0
    clear h0
    go_enter Tryz.func54, Tryz.ntmps54
    go_wp2
    go_ret
    exact ⟨ret_int (by unfold absR; rw [if_neg (by have := HH.out; omega)]), rfl⟩
def varB (v : Int) : Bool := decide (1 ≤ v) && decide (v ≤ 65536)
theorem variable_any (v : Int) (w : World) : Calls Tryz.prog 51 #[.int .i64 v] w fun e w' => e = .returned (.bool (varB v)) ∧ w' = w := by
  unfold varB
  by_cases h1 : 1 ≤ v
  · rw [decide_eq_true h1]
    go_enter Tryz.func51, Tryz.ntmps51
    go_wp2
    go_ret
    exact ⟨rfl, rfl⟩
  · rw [decide_eq_false h1]
    go_enter Tryz.func51, Tryz.ntmps51
    go_wp2
    go_ret
    exact ⟨rfl, rfl⟩
theorem absR_var {l : Int} : varB (absR l) = true ↔ 1 ≤ absN l := by
  unfold varB absR absN absI
  simp only [Bool.and_eq_true, decide_eq_true_eq]
  repeat' split
  all_goals omega
theorem absR_eq {l : Int} (h : 1 ≤ absN l) : absR l = (absN l : Int) := by
  have hl := absN_pos h
  rw [← absI_N]
  unfold absR absI
  repeat' split
  all_goals omega
set_option maxHeartbeats 1000000 in
theorem shape_any (x y : Int) (A : Option Addr) (n c : Nat) (w : World) (hn : n ≤ 9223372036854775807) :
    Calls Tryz.prog 52 #[.agg #[.int .i64 x, .int .u8 y, .slice A n c]] w fun e w' => e = .returned (.bool (shapedB y n)) ∧ Below w.heap.size w w' := by
  have key : ∀ r, shapedB y n = r → Calls Tryz.prog 52 #[.agg #[.int .i64 x, .int .u8 y, .slice A n c]] w fun e w' => e = .returned (.bool r) ∧ Below w.heap.size w w' := by
    intro r hr
    by_cases h1 : y = 1
    · subst h1
      simp [shapedB] at hr
      subst hr
      go_enter Tryz.func52, Tryz.ntmps52
      go_wp2
      go_ret
      exact ⟨rfl, (Below.refl _ _).alloc (Nat.le_refl _) _⟩
    · by_cases h2 : y = 2
      · subst h2
        simp [shapedB] at hr
        subst hr
        go_enter Tryz.func52, Tryz.ntmps52
        go_wp2
        go_ret
        exact ⟨rfl, (Below.refl _ _).alloc (Nat.le_refl _) _⟩
      · by_cases h3 : y = 3
        · subst h3
          simp [shapedB] at hr
          subst hr
          go_enter Tryz.func52, Tryz.ntmps52
          go_wp2
          go_ret
          exact ⟨ret_bool (by rw [Bool.eq_iff_iff]; simp; omega), (Below.refl _ _).alloc (Nat.le_refl _) _⟩
        · by_cases h4 : y = 4
          · subst h4
            simp [shapedB] at hr
            subst hr
            go_enter Tryz.func52, Tryz.ntmps52
            go_wp2
            go_ret
            exact ⟨ret_bool (by rw [Bool.eq_iff_iff]; simp; omega), (Below.refl _ _).alloc (Nat.le_refl _) _⟩
          · unfold shapedB at hr
            rw [if_neg h1, if_neg h2, if_neg h3, if_neg h4] at hr
            subst hr
            have b1 : (y == 1) = false := by simpa using h1
            have b2 : (y == 2) = false := by simpa using h2
            have b3 : (y == 3) = false := by simpa using h3
            have b4 : (y == 4) = false := by simpa using h4
            clear h1 h2 h3 h4
            go_enter Tryz.func52, Tryz.ntmps52
            go_wp2
            go_ret
            exact ⟨rfl, (Below.refl _ _).alloc (Nat.le_refl _) _⟩
  exact key _ rfl

/-- A slice of 65,537 bools in a block of its own. -/
theorem known_any (b t : Nat) (S : Nat → Bool) (l : Int) (w : World) (hS : SetAt w b t S) (hR : SetR S) (hl : I64 l) : Calls Tryz.prog 53 #[.slice (some ⟨b, 0, none⟩) 65537 65537, .int .i64 l] w fun e w' => e = .returned (.bool (S (absN l))) ∧ w' = w := by
  have CA := fun W => absR_any l W hl
  by_cases h : 1 ≤ absN l
  · have e := absR_eq h
    rw [e] at CA
    have hq := absN_lt l
    have CV := fun W => variable_any (absN l : Int) W
    have hv : varB (absN l : Int) = true := by unfold varB; simp; omega
    rw [hv] at CV
    have hc := hS.cell (absN l) hq
    clear e hv h
    revert CA CV hc hq
    generalize absN l = q
    intro CA hq CV hc
    generalize S q = r at hc ⊢
    clear hS hR
    go_enter Tryz.func53, Tryz.ntmps53
    go_wp2_with (first | (go_at_call 54; refine (CA _).mono ?_; rintro e w' ⟨rfl, rfl⟩) | (go_at_call 51; refine (CV _).mono ?_; rintro e w' ⟨rfl, rfl⟩))
    go_ret
    exact ⟨rfl, rfl⟩
  · have h0 : absN l = 0 := by omega
    have hS0 : S (absN l) = false := by
      cases hq : S (absN l) with
      | false => rfl
      | true => have := (hR _ hq).1; omega
    have hv : varB (absR l) = false := by
      cases hq : varB (absR l) with
      | false => rfl
      | true => exact absurd (absR_var.1 hq) h
    have CV := fun W => variable_any (absR l) W
    rw [hv] at CV
    rw [hS0]
    clear hv hS0 h h0 hS hR
    revert CA CV
    generalize absR l = q
    intro CA CV
    go_enter Tryz.func53, Tryz.ntmps53
    go_wp2_with (first | (go_at_call 54; refine (CA _).mono ?_; rintro e w' ⟨rfl, rfl⟩) | (go_at_call 51; refine (CV _).mono ?_; rintro e w' ⟨rfl, rfl⟩))
    go_ret
    exact ⟨rfl, rfl⟩

theorem make47 (W : World) : (Instr.makeSlice 96 (.int .i64 65537) (.int .i64 65537)).run Tryz.prog W = .ok (.slice (some ⟨W.heap.size, 0, none⟩) 65537 65537) (W.alloc (.cells (madeCells #[.bool false] 65537) 4)) := by
  obtain ⟨i0, hi, hzz⟩ := Option.map_eq_some_iff.1 info4
  simp only [Prod.mk.injEq] at hzz
  obtain ⟨hz0, hz1, hz2⟩ := hzz
  have := run_make (P := Tryz.prog) W 96 4 i0 (.bool false) Tryz.underlying96 hi hz0 .i64 .i64 65537 65537 (by omega) (Int.le_refl _) (by rw [hz2]; omega) (by omega)
  rw [hz1, Nat.mul_one] at this
  exact this
theorem set_made (w : World) : SetAt (w.alloc (.cells (madeCells #[Value.bool false] 65537) 4)) w.heap.size 4 noS :=
  ⟨_, heap_alloc_new w _, by simp [madeCells], fun i hi => by unfold madeCells noS; simp [hi, Nat.mod_one]⟩
/-- The set of the numbers of a list. -/
def setOf (xs : List Int) : Nat → Bool := fun i => decide ((i : Int) ∈ xs)
theorem setOf_snoc (xs : List Int) (x : Nat) : setOf (xs ++ [(x : Int)]) = upd (setOf xs) x true := by
  funext i
  unfold setOf upd
  by_cases h : i = x
  · rw [if_pos h, h]; simp
  · rw [if_neg h]
    have : (i : Int) ≠ (x : Int) := by omega
    simp [this]
theorem marks_any (v : Value) (xs : List Int) (w : World) (h : IntsAt w v xs) (hx : ∀ x ∈ xs, 0 ≤ x ∧ x ≤ 65536) :
    Calls Tryz.prog 49 #[v] w fun e w' => ∃ b, e = .returned (.slice (some ⟨b, 0, none⟩) 65537 65537) ∧ SetAt w' b 4 (setOf xs) ∧ Below w.heap.size w w' ∧ w.heap.size ≤ b := by
  obtain ⟨A, c, rfl, hlc, hcm⟩ := h.form
  have hmk := make47 w
  have hS0 := set_made w
  have hB0 : Below w.heap.size w (w.alloc (.cells (madeCells #[Value.bool false] 65537) 4)) := (Below.refl _ w).alloc (Nat.le_refl _) _
  revert hmk hS0 hB0
  generalize w.alloc (.cells (madeCells #[Value.bool false] 65537) 4) = w1
  intro hmk hS0 hB0
  go_enter Tryz.func49, Tryz.ntmps49
  go_wp2_with fail
  go_loopg [4] xs.length (fun gg s4 wr => ∃ j : Nat, j ≤ xs.length ∧ xs.length - j ≤ gg ∧ s4 = .int .i64 j ∧ Below w.heap.size w wr ∧ SetAt wr w.heap.size 4 (setOf (xs.take j)))
  case atStart =>
    have e : setOf (xs.take 0) = noS := by funext i; simp [setOf, noS]
    exact ⟨0, Nat.zero_le _, by omega, rfl, hB0, by rw [e]; exact hS0⟩
  case round =>
    clear hmk hS0 hB0
    obtain ⟨j, hj, hg, rfl, hB, hS⟩ := hrel
    by_cases hlt : j < xs.length
    · obtain ⟨x, hxx, hm, -⟩ := nth hlt
      obtain ⟨b, off, rfl, hcx, -⟩ := (h.keep (keeps_below hB)).at_ j x hxx
      have hltz : (j : Int) < (xs.length : Int) := by omega
      obtain ⟨hx1, hx2⟩ := hx x hm
      obtain ⟨q, rfl⟩ : ∃ q : Nat, x = q := Int.eq_ofNat_of_zero_le hx1
      have hq : q < 65537 := by omega
      have hc := hS.cell q hq
      have hf := hS.free q
      have HS := hid hS
      have HX := hid hxx
      clear hS hxx hm hx1 hx2 hx
      go_wp2_with fail
      go_roundg (xs.length - (j + 1))
      case measure => omega
      case rel => exact ⟨j + 1, by omega, by omega, by go_num, hB.setCell (p := ⟨w.heap.size, q, none⟩) (Nat.le_refl _) _, by rw [take_snoc HX.out, setOf_snoc]; exact HS.out.store q true⟩
    · have hltz : ¬ (j : Int) < (xs.length : Int) := by omega
      rw [List.take_of_length_le (by omega : xs.length ≤ j)] at hS
      have HS := hid hS
      clear hS hx
      go_wp2_with fail
      go_ret
      exact ⟨_, rfl, HS.out, hB, Nat.le_refl _⟩
section
variable {ops : Array Oper} {rest : List Oper} {o : Oper} {a : Act} {Q : Exit → Act → World → Prop}
/-- Numbers that read as data are appended to a row of one's own. -/
theorem append_data {W : World} (base : Nat) (hgd : o.guard = none) (s x : Operand) (ho : o.op = .call { callee := .builtin .append, args := #[s, x], argTypes := #[48, 48] })
    (v : Value) (n : Nat) (xs : List Int) (g off m cap : Nat) (ys : List Int) (hs : a.eval s = v) (hx : a.eval x = .slice (some ⟨g, off, none⟩) m cap)
    (HO : W.ownsRow base 3 1 v n (nums xs)) (HY : IntsAt W (.slice (some ⟨g, off, none⟩) m cap) ys) (hm : ys.length = m) (hbase : base ≤ W.heap.size) (hl : (n + m) * 8 ≤ 140737488355328)
    (h : ∀ v1 w1, w1.ownsRow base 3 1 v1 (n + m) (nums (xs ++ ys)) → W.grownBy w1 v.ownBlock → wpList Tryz.prog ops Q rest (a.put o.dst v1) w1) :
    wpList Tryz.prog ops Q (o :: rest) a W := by
  obtain ⟨i0, hi, hzz⟩ := Option.map_eq_some_iff.1 info3
  simp only [Prod.mk.injEq] at hzz
  obtain ⟨hz0, hz1, hz2⟩ := hzz
  refine wpList_append_own_at W hgd s x 48 ho base 3 i0 (.int .i64 0) 1 8 Tryz.underlying48 hi hz0 hz1 hz2 rfl (by decide) v n (nums xs) hs HO ⟨g, off, none⟩ m cap (nums ys) hx (by rw [nums_length, hm, Nat.mul_one]) (fun j u hj => ?_)
    (fun u hu => ?_) (by simp only [maxLen]; omega) hl hbase (fun v1 w1 h1 h2 _ h3 => h v1 w1 ?_ h2)
  · have hadd : (⟨g, off, none⟩ : Addr).add j = ⟨g, off + j, none⟩ := by unfold Addr.add; split <;> simp_all
    rw [hadd]
    unfold nums at hj
    rw [List.getElem?_map] at hj
    obtain ⟨y, hy, rfl⟩ := Option.map_eq_some_iff.1 hj
    subst hm
    obtain ⟨b', off', e, hc, -⟩ := HY.at_ j y hy
    cases e
    exact hc
  · obtain ⟨z, _, rfl⟩ := List.mem_map.1 hu; rfl
  · have e : nums (xs ++ ys) = nums xs ++ nums ys := List.map_append
    rw [e]; exact h1
end
theorem varsOf_take {p : List PBlock} {j : Nat} {x : PBlock} (h : p[j]? = some x) : varsOf (p.take (j + 1)) = varsOf (p.take j) ++ x.vars := by
  rw [take_snoc h, varsOf_append]; simp [varsOf]
theorem varsOf_take_le (p : List PBlock) (j : Nat) : (varsOf (p.take j)).length ≤ (varsOf p).length := by
  have : varsOf p = varsOf (p.take j) ++ varsOf (p.drop j) := by rw [← varsOf_append, List.take_append_drop]
  rw [this, List.length_append]; omega
theorem Vars_any (v : Value) (p : List PBlock) (w : World) (h : BlocksAt w v p) (hne : ∀ x ∈ p, x.vars ≠ []) (hn : (varsOf p).length ≤ 1000000) :
    Calls Tryz.prog 50 #[v] w fun e w' => ∃ v', e = .returned v' ∧ w'.ownsRow w.heap.size 3 1 v' (varsOf p).length (nums (varsOf p)) ∧ Below w.heap.size w w' := by
  obtain ⟨A, c, rfl, hlc, hcm⟩ := h.form
  go_enter Tryz.func50, Tryz.ntmps50
  go_wp2_with fail
  go_loopg [3, 4] p.length (fun gg s3 s4 wr => ∃ (j : Nat) (vo : Value), j ≤ p.length ∧ p.length - j ≤ gg ∧ s4 = .int .i64 j ∧ s3 = vo ∧ Below w.heap.size w wr ∧ wr.ownsRow w.heap.size 3 1 vo (varsOf (p.take j)).length (nums (varsOf (p.take j))))
  case atStart => exact ⟨0, .slice none 0 0, Nat.zero_le _, by omega, rfl, rfl, Below.refl _ _, by simpa [varsOf, nums] using World.ownsRow_nil w w.heap.size 3 1⟩
  case round =>
    obtain ⟨j, vo, hj, hg, rfl, rfl, hB, hO⟩ := hrel
    obtain ⟨Ao, co, rfl⟩ := own_shape hO
    by_cases hlt : j < p.length
    · obtain ⟨x, hx, hm, -⟩ := nth hlt
      obtain ⟨b, off, vi, rfl, hc0, hc1, hi⟩ := (h.keep (keeps_below hB)).at_ j x hx
      obtain ⟨Ai, ci, rfl, hli, hci⟩ := hi.form
      have hxn := hne x hm
      have hp : 0 < x.vars.length := List.length_pos_iff.2 hxn
      obtain ⟨bi, oi, rfl⟩ : ∃ bi oi, Ai = some ⟨bi, oi, none⟩ := by
        obtain ⟨y, hy, -, -⟩ := nth hp
        obtain ⟨bi, oi, e, _⟩ := hi.at_ 0 y hy
        exact ⟨bi, oi, e⟩
      have hltz : (j : Int) < (p.length : Int) := by omega
      have htk := varsOf_take hx
      have hle := varsOf_take_le p (j + 1)
      rw [htk, List.length_append] at hle
      have HTK := hid htk
      have hbs := hB.size
      clear htk hx hm hxn hne hp hc0
      go_wp2_with (at_builtin; refine append_data w.heap.size rfl _ _ rfl (.slice Ao (varsOf (p.take j)).length co) (varsOf (p.take j)).length (varsOf (p.take j)) bi oi x.vars.length ci x.vars rfl rfl hO hi rfl hbs (by omega) ?_; intro v1 w1 hO1 hG1)
      go_roundg (p.length - (j + 1))
      case measure => omega
      case rel => exact ⟨j + 1, v1, by omega, by omega, by go_num, rfl, hB.grown hG1 hB.size (fun r e => (hO.lt r e).1), by rw [HTK.out, List.length_append]; exact hO1⟩
    · have hltz : ¬ (j : Int) < (p.length : Int) := by omega
      rw [List.take_of_length_le (by omega : p.length ≤ j)] at hO
      have HO := hid hO
      clear hO
      go_wp2_with fail
      go_ret
      have e : p.take j = p := List.take_of_length_le (by omega)
      rw [e]
      exact ⟨_, rfl, HO.out, hB⟩

theorem IntsAt.i64 {w : World} {v : Value} {xs : List Int} (h : IntsAt w v xs) : ∀ x ∈ xs, I64 x := fun x hx => by
  obtain ⟨A, c, rfl, _, _⟩ := h.form
  obtain ⟨k, hk⟩ := List.getElem?_of_mem hx
  obtain ⟨_, _, _, _, h64⟩ := h.at_ k x hk
  exact h64

theorem litSum_take {gs : List PGate} {j : Nat} {g : PGate} (h : gs[j]? = some g) : litSum (gs.take (j + 1)) = litSum (gs.take j) + g.ins.length := by
  rw [take_snoc h, litSum_append]; simp [litSum]
end Go.Proofs.YtnlobmepajakcaaGreatDoor
