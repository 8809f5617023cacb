/- What the reference's marks and Vars and the law's many do; the conditions: what is marked lies from 0 to 65,536, each block has a variable, a gate has at most 2^44 literals. -/
import Derived.Test.YtnlobmepajakcaaRefA
set_option linter.unusedVariables false
set_option linter.unusedSimpArgs false
namespace Go.Proofs.Ytnlobmepajakcaa
open Go.RowKit Go.Shelf

theorem make47 (W : World) : (Instr.makeSlice 47 (.int .i64 65537) (.int .i64 65537)).run Try.prog W = .ok (.slice (some ⟨W.heap.size, 0, none⟩) 65537 65537) (W.alloc (.cells (madeCells #[.bool false] 65537) 4)) := by
  obtain ⟨i0, hi, hzz⟩ := Option.map_eq_some_iff.1 info4
  simp only [Prod.mk.injEq] at hzz
  obtain ⟨hz0, hz1, hz2⟩ := hzz
  have := run_make (P := Try.prog) W 47 4 i0 (.bool false) Try.underlying47 hi hz0 .i64 .i64 65537 65537 (by omega) (Int.le_refl _) (by rw [hz2]; omega) (by omega)
  rw [hz1, Nat.mul_one] at this
  exact this
theorem set_made (w : World) : SetAt (w.alloc (.cells (madeCells #[Value.bool false] 65537) 4)) w.heap.size 4 noS :=
  ⟨_, heap_alloc_new w _, by simp [madeCells], fun i hi => by unfold madeCells noS; simp [hi, Nat.mod_one]⟩
/-- The set of the numbers of a list. -/
def setOf (xs : List Int) : Nat → Bool := fun i => decide ((i : Int) ∈ xs)
theorem setOf_snoc (xs : List Int) (x : Nat) : setOf (xs ++ [(x : Int)]) = upd (setOf xs) x true := by
  funext i
  unfold setOf upd
  by_cases h : i = x
  · rw [if_pos h, h]; simp
  · rw [if_neg h]
    have : (i : Int) ≠ (x : Int) := by omega
    simp [this]
theorem marks_any (v : Value) (xs : List Int) (w : World) (h : IntsAt w v xs) (hx : ∀ x ∈ xs, 0 ≤ x ∧ x ≤ 65536) :
    Calls Try.prog 50 #[v] w fun e w' => ∃ b, e = .returned (.slice (some ⟨b, 0, none⟩) 65537 65537) ∧ SetAt w' b 4 (setOf xs) ∧ Below w.heap.size w w' ∧ w.heap.size ≤ b := by
  obtain ⟨A, c, rfl, hlc, hcm⟩ := h.form
  have hmk := make47 w
  have hS0 := set_made w
  have hB0 : Below w.heap.size w (w.alloc (.cells (madeCells #[Value.bool false] 65537) 4)) := (Below.refl _ w).alloc (Nat.le_refl _) _
  revert hmk hS0 hB0
  generalize w.alloc (.cells (madeCells #[Value.bool false] 65537) 4) = w1
  intro hmk hS0 hB0
  go_enter Try.func50, Try.ntmps50
  go_wp2_with fail
  go_loopg [4] xs.length (fun gg s4 wr => ∃ j : Nat, j ≤ xs.length ∧ xs.length - j ≤ gg ∧ s4 = .int .i64 j ∧ Below w.heap.size w wr ∧ SetAt wr w.heap.size 4 (setOf (xs.take j)))
  case atStart =>
    have e : setOf (xs.take 0) = noS := by funext i; simp [setOf, noS]
    exact ⟨0, Nat.zero_le _, by omega, rfl, hB0, by rw [e]; exact hS0⟩
  case round =>
    clear hmk hS0 hB0
    obtain ⟨j, hj, hg, rfl, hB, hS⟩ := hrel
    by_cases hlt : j < xs.length
    · obtain ⟨x, hxx, hm, -⟩ := nth hlt
      obtain ⟨b, off, rfl, hcx, -⟩ := (h.keep (keeps_below hB)).at_ j x hxx
      have hltz : (j : Int) < (xs.length : Int) := by omega
      obtain ⟨hx1, hx2⟩ := hx x hm
      obtain ⟨q, rfl⟩ : ∃ q : Nat, x = q := Int.eq_ofNat_of_zero_le hx1
      have hq : q < 65537 := by omega
      have hc := hS.cell q hq
      have hf := hS.free q
      have HS := hid hS
      have HX := hid hxx
      clear hS hxx hm hx1 hx2 hx
      go_wp2_with fail
      go_roundg (xs.length - (j + 1))
      case measure => omega
      case rel => exact ⟨j + 1, by omega, by omega, by go_num, hB.setCell (p := ⟨w.heap.size, q, none⟩) (Nat.le_refl _) _, by rw [take_snoc HX.out, setOf_snoc]; exact HS.out.store q true⟩
    · have hltz : ¬ (j : Int) < (xs.length : Int) := by omega
      rw [List.take_of_length_le (by omega : xs.length ≤ j)] at hS
      have HS := hid hS
      clear hS hx
      go_wp2_with fail
      go_ret
      exact ⟨_, rfl, HS.out, hB, Nat.le_refl _⟩
section
variable {ops : Array Oper} {rest : List Oper} {o : Oper} {a : Act} {Q : Exit → Act → World → Prop}
/-- Numbers that read as data are appended to a row of one's own. -/
theorem append_data {W : World} (base : Nat) (hgd : o.guard = none) (s x : Operand) (ho : o.op = .call { callee := .builtin .append, args := #[s, x], argTypes := #[26, 26] })
    (v : Value) (n : Nat) (xs : List Int) (g off m cap : Nat) (ys : List Int) (hs : a.eval s = v) (hx : a.eval x = .slice (some ⟨g, off, none⟩) m cap)
    (HO : W.ownsRow base 3 1 v n (nums xs)) (HY : IntsAt W (.slice (some ⟨g, off, none⟩) m cap) ys) (hm : ys.length = m) (hbase : base ≤ W.heap.size) (hl : (n + m) * 8 ≤ 140737488355328)
    (h : ∀ v1 w1, w1.ownsRow base 3 1 v1 (n + m) (nums (xs ++ ys)) → W.grownBy w1 v.ownBlock → wpList Try.prog ops Q rest (a.put o.dst v1) w1) :
    wpList Try.prog ops Q (o :: rest) a W := by
  obtain ⟨i0, hi, hzz⟩ := Option.map_eq_some_iff.1 info3
  simp only [Prod.mk.injEq] at hzz
  obtain ⟨hz0, hz1, hz2⟩ := hzz
  refine wpList_append_own_at W hgd s x 26 ho base 3 i0 (.int .i64 0) 1 8 Try.underlying26 hi hz0 hz1 hz2 rfl (by decide) v n (nums xs) hs HO ⟨g, off, none⟩ m cap (nums ys) hx (by rw [nums_length, hm, Nat.mul_one]) (fun j u hj => ?_)
    (fun u hu => ?_) (by simp only [maxLen]; omega) hl hbase (fun v1 w1 h1 h2 _ h3 => h v1 w1 ?_ h2)
  · have hadd : (⟨g, off, none⟩ : Addr).add j = ⟨g, off + j, none⟩ := by unfold Addr.add; split <;> simp_all
    rw [hadd]
    unfold nums at hj
    rw [List.getElem?_map] at hj
    obtain ⟨y, hy, rfl⟩ := Option.map_eq_some_iff.1 hj
    subst hm
    obtain ⟨b', off', e, hc, -⟩ := HY.at_ j y hy
    cases e
    exact hc
  · obtain ⟨z, _, rfl⟩ := List.mem_map.1 hu; rfl
  · have e : nums (xs ++ ys) = nums xs ++ nums ys := List.map_append
    rw [e]; exact h1
end
theorem varsOf_take {p : List PBlock} {j : Nat} {x : PBlock} (h : p[j]? = some x) : varsOf (p.take (j + 1)) = varsOf (p.take j) ++ x.vars := by
  rw [take_snoc h, varsOf_append]; simp [varsOf]
theorem varsOf_take_le (p : List PBlock) (j : Nat) : (varsOf (p.take j)).length ≤ (varsOf p).length := by
  have : varsOf p = varsOf (p.take j) ++ varsOf (p.drop j) := by rw [← varsOf_append, List.take_append_drop]
  rw [this, List.length_append]; omega
theorem Vars_any (v : Value) (p : List PBlock) (w : World) (h : BlocksAt w v p) (hne : ∀ x ∈ p, x.vars ≠ []) (hn : (varsOf p).length ≤ 1000000) :
    Calls Try.prog 19 #[v] w fun e w' => ∃ v', e = .returned v' ∧ w'.ownsRow w.heap.size 3 1 v' (varsOf p).length (nums (varsOf p)) ∧ Below w.heap.size w w' := by
  obtain ⟨A, c, rfl, hlc, hcm⟩ := h.form
  go_enter Try.func19, Try.ntmps19
  go_wp2_with fail
  go_loopg [3, 4] p.length (fun gg s3 s4 wr => ∃ (j : Nat) (vo : Value), j ≤ p.length ∧ p.length - j ≤ gg ∧ s4 = .int .i64 j ∧ s3 = vo ∧ Below w.heap.size w wr ∧ wr.ownsRow w.heap.size 3 1 vo (varsOf (p.take j)).length (nums (varsOf (p.take j))))
  case atStart => exact ⟨0, .slice none 0 0, Nat.zero_le _, by omega, rfl, rfl, Below.refl _ _, by simpa [varsOf, nums] using World.ownsRow_nil w w.heap.size 3 1⟩
  case round =>
    obtain ⟨j, vo, hj, hg, rfl, rfl, hB, hO⟩ := hrel
    obtain ⟨Ao, co, rfl⟩ := own_shape hO
    by_cases hlt : j < p.length
    · obtain ⟨x, hx, hm, -⟩ := nth hlt
      obtain ⟨b, off, vi, rfl, hc0, hc1, hi⟩ := (h.keep (keeps_below hB)).at_ j x hx
      obtain ⟨Ai, ci, rfl, hli, hci⟩ := hi.form
      have hxn := hne x hm
      have hp : 0 < x.vars.length := List.length_pos_iff.2 hxn
      obtain ⟨bi, oi, rfl⟩ : ∃ bi oi, Ai = some ⟨bi, oi, none⟩ := by
        obtain ⟨y, hy, -, -⟩ := nth hp
        obtain ⟨bi, oi, e, _⟩ := hi.at_ 0 y hy
        exact ⟨bi, oi, e⟩
      have hltz : (j : Int) < (p.length : Int) := by omega
      have htk := varsOf_take hx
      have hle := varsOf_take_le p (j + 1)
      rw [htk, List.length_append] at hle
      have HTK := hid htk
      have hbs := hB.size
      clear htk hx hm hxn hne hp hc0
      go_wp2_with (at_builtin; refine append_data w.heap.size rfl _ _ rfl (.slice Ao (varsOf (p.take j)).length co) (varsOf (p.take j)).length (varsOf (p.take j)) bi oi x.vars.length ci x.vars rfl rfl hO hi rfl hbs (by omega) ?_; intro v1 w1 hO1 hG1)
      go_roundg (p.length - (j + 1))
      case measure => omega
      case rel => exact ⟨j + 1, v1, by omega, by omega, by go_num, rfl, hB.grown hG1 hB.size (fun r e => (hO.lt r e).1), by rw [HTK.out, List.length_append]; exact hO1⟩
    · have hltz : ¬ (j : Int) < (p.length : Int) := by omega
      rw [List.take_of_length_le (by omega : p.length ≤ j)] at hO
      have HO := hid hO
      clear hO
      go_wp2_with fail
      go_ret
      have e : p.take j = p := List.take_of_length_le (by omega)
      rw [e]
      exact ⟨_, rfl, HO.out, hB⟩
end Go.Proofs.Ytnlobmepajakcaa
