/- What circ's small functions, prefix, May and the evaluators do; the conditions: gates have at most 2^62 literals. -/
import Derived.Test.YtnlobmepajakcaaGreatDoorZBase
import Derived.IntWalk
import Derived.Laws.EntriesVeiled
set_option linter.unusedVariables false
set_option linter.unusedSimpArgs false
namespace Go.Proofs.YtnlobmepajakcaaGreatDoor
open Go.RowKit Go.Shelf

def absI (l : Int) : Int := if l < -65536 then 0 else if 65536 < l then 0 else if l < 0 then -l else l
theorem absI_nn (l : Int) : 0 ≤ absI l ∧ absI l ≤ 65536 := by unfold absI; omega
/-- The place of a literal in a set. -/
def absN (l : Int) : Nat := (absI l).toNat
theorem absN_lt (l : Int) : absN l < 65537 := by have := absI_nn l; unfold absN; omega
theorem absN_cast (l : Int) : (absN l : Int) = absI l := by have := absI_nn l; unfold absN; omega

set_option maxHeartbeats 400000 in
theorem abs_any0 (a : Int) (w : World) :
    Calls Tryz.prog 103 #[.int .i64 a] w fun e w' => e = .returned (.int .i64 (absI a)) ∧ w' = w := by
  by_cases h1 : a < -65536
  · go_enter Tryz.func103, Tryz.ntmps103
    go_wp2
    go_ret
    exact ⟨ret_int (by unfold absI; omega), rfl⟩
  · by_cases h2 : 65536 < a
    · go_enter Tryz.func103, Tryz.ntmps103
      go_wp2
      go_ret
      exact ⟨ret_int (by unfold absI; omega), rfl⟩
    · go_enter Tryz.func103, Tryz.ntmps103
      go_wp2
      all_goals
        go_ret
        exact ⟨ret_int (by unfold absI; omega), rfl⟩
theorem abs_any (a : Int) (w : World) :
    Calls Tryz.prog 103 #[.int .i64 a] w fun e w' => e = .returned (.int .i64 (absN a : Int)) ∧ w' = w := by
  rw [absN_cast]; exact abs_any0 a w

set_option maxHeartbeats 400000 in
theorem has_any (b t : Nat) (S : Nat → Bool) (l : Int) (w : World) (hs : SetAt w b t S) :
    Calls Tryz.prog 89 #[.pointer (some ⟨b, 0, none⟩), .int .i64 l] w fun e w' => e = .returned (.bool (S (absN l))) ∧ ∃ n, w' = w.drewN n := by
  have hc := hs.cell (absN l) (absN_lt l)
  have h1 := absN_lt l
  have A := abs_any l
  clear hs
  revert hc h1 A
  generalize absN l = k
  intro hc h1 A
  go_enter Tryz.func89, Tryz.ntmps89
  go_wp2_with fail
  go_quiet ((go_at_call 103; exact Calls.quiet_of_same (A _)))
  go_wp2
  go_ret
  exact ⟨rfl, _, rfl⟩

/-- May a variable be added to a set? -/
def addB (S : Nat → Bool) (v : Int) : Bool := decide (1 ≤ v) && decide (v ≤ 65536) && !S v.toNat
set_option maxHeartbeats 400000 in
theorem add_yes (b t : Nat) (S : Nat → Bool) (v : Int) (w : World) (hs : SetAt w b t S) (h : addB S v = true) :
    Calls Tryz.prog 86 #[.pointer (some ⟨b, 0, none⟩), .int .i64 v] w fun e w' => e = .returned (.bool true) ∧ w' = w.setCell ⟨b, v.toNat, none⟩ (.bool true) := by
  simp only [addB, Bool.and_eq_true, decide_eq_true_eq, Bool.not_eq_true'] at h
  obtain ⟨⟨h1, h2⟩, h3⟩ := h
  obtain ⟨k, rfl⟩ := Int.eq_ofNat_of_zero_le (show 0 ≤ v by omega)
  rw [Int.toNat_natCast] at h3 ⊢
  have hc := hs.cell k (by omega)
  have hf := hs.free k
  rw [h3] at hc
  clear hs h3
  have h1' : ¬ (k : Int) < 1 := by omega
  have h2' : ¬ 65536 < (k : Int) := by omega
  go_enter Tryz.func86, Tryz.ntmps86
  go_wp2
  go_ret
  exact ⟨rfl, rfl⟩
set_option maxHeartbeats 400000 in
theorem add_no (b t : Nat) (S : Nat → Bool) (v : Int) (w : World) (hs : SetAt w b t S) (h : addB S v = false) :
    Calls Tryz.prog 86 #[.pointer (some ⟨b, 0, none⟩), .int .i64 v] w fun e w' => e = .returned (.bool false) ∧ w' = w := by
  by_cases h1 : v < 1
  · go_enter Tryz.func86, Tryz.ntmps86
    go_wp2
    go_ret
    exact ⟨rfl, rfl⟩
  · by_cases h2 : 65536 < v
    · go_enter Tryz.func86, Tryz.ntmps86
      go_wp2
      go_ret
      exact ⟨rfl, rfl⟩
    · obtain ⟨k, rfl⟩ := Int.eq_ofNat_of_zero_le (show 0 ≤ v by omega)
      have h3 : S k = true := by
        simp only [addB, Int.toNat_natCast] at h
        rw [decide_eq_true (by omega), decide_eq_true (by omega)] at h
        simpa using h
      have hc := hs.cell k (by omega)
      rw [h3] at hc
      clear hs h3 h
      go_enter Tryz.func86, Tryz.ntmps86
      go_wp2
      go_ret
      exact ⟨rfl, rfl⟩
def addS (S : Nat → Bool) (v : Int) : Nat → Bool := if addB S v then upd S v.toNat true else S
theorem add_any (b t : Nat) (S : Nat → Bool) (v : Int) (w : World) (hs : SetAt w b t S) :
    Calls Tryz.prog 86 #[.pointer (some ⟨b, 0, none⟩), .int .i64 v] w fun e w' => e = .returned (.bool (addB S v)) ∧ SetAt w' b t (addS S v) ∧ w.grownBy w' (some b) := by
  cases h : addB S v with
  | true =>
    refine (add_yes b t S v w hs h).mono ?_
    rintro e w' ⟨rfl, rfl⟩
    refine ⟨rfl, ?_, grown_setCell w ⟨b, v.toNat, none⟩ _⟩
    unfold addS
    rw [if_pos h]
    exact hs.store _ _
  | false =>
    refine (add_no b t S v w hs h).mono ?_
    rintro e w' ⟨rfl, rfl⟩
    refine ⟨rfl, ?_, World.grownBy.refl _ _⟩
    unfold addS
    rw [if_neg (by rw [h]; simp)]
    exact hs

/-- Does a gate of a kind want so many literals? -/
def shapedB (kind : Int) (n : Nat) : Bool := if kind = 1 then true else if kind = 2 then true else if kind = 3 then decide (n = 2) else if kind = 4 then decide (n = 3) else false
set_option maxHeartbeats 1000000 in
theorem shaped_any (x y : Int) (A : Option Addr) (n c : Nat) (w : World) (hn : n ≤ 9223372036854775807) :
    Calls Tryz.prog 87 #[.agg #[.int .i64 x, .int .u8 y, .slice A n c]] w fun e w' => e = .returned (.bool (shapedB y n)) ∧ Below w.heap.size w w' := by
  have key : ∀ r, shapedB y n = r → Calls Tryz.prog 87 #[.agg #[.int .i64 x, .int .u8 y, .slice A n c]] w fun e w' => e = .returned (.bool r) ∧ Below w.heap.size w w' := by
    intro r hr
    by_cases h1 : y = 1
    · subst h1
      simp [shapedB] at hr
      subst hr
      go_enter Tryz.func87, Tryz.ntmps87
      go_wp2
      go_ret
      exact ⟨rfl, (Below.refl _ _).alloc (Nat.le_refl _) _⟩
    · by_cases h2 : y = 2
      · subst h2
        simp [shapedB] at hr
        subst hr
        go_enter Tryz.func87, Tryz.ntmps87
        go_wp2
        go_ret
        exact ⟨rfl, (Below.refl _ _).alloc (Nat.le_refl _) _⟩
      · by_cases h3 : y = 3
        · subst h3
          simp [shapedB] at hr
          subst hr
          go_enter Tryz.func87, Tryz.ntmps87
          go_wp2
          go_ret
          exact ⟨ret_bool (by rw [Bool.eq_iff_iff]; simp; omega), (Below.refl _ _).alloc (Nat.le_refl _) _⟩
        · by_cases h4 : y = 4
          · subst h4
            simp [shapedB] at hr
            subst hr
            go_enter Tryz.func87, Tryz.ntmps87
            go_wp2
            go_ret
            exact ⟨ret_bool (by rw [Bool.eq_iff_iff]; simp; omega), (Below.refl _ _).alloc (Nat.le_refl _) _⟩
          · unfold shapedB at hr
            rw [if_neg h1, if_neg h2, if_neg h3, if_neg h4] at hr
            subst hr
            have b1 : (y == 1) = false := by simpa using h1
            have b2 : (y == 2) = false := by simpa using h2
            have b3 : (y == 3) = false := by simpa using h3
            have b4 : (y == 4) = false := by simpa using h4
            clear h1 h2 h3 h4
            go_enter Tryz.func87, Tryz.ntmps87
            go_wp2
            go_ret
            exact ⟨rfl, (Below.refl _ _).alloc (Nat.le_refl _) _⟩
  exact key _ rfl

def litSum : List PGate → Nat
  | [] => 0
  | g :: gs => g.ins.length + litSum gs
set_option maxHeartbeats 1000000 in
theorem literals_any (v : Value) (gs : List PGate) (w : World) (h : GatesAt w v gs) (hs : litSum gs ≤ 4611686018427387904) :
    Calls Tryz.prog 90 #[v] w fun e w' => e = .returned (.int .i64 (litSum gs : Int)) ∧ Below w.heap.size w w' := by
  obtain ⟨A, c, rfl, hlc, hcm⟩ := SlAt.form h
  have hlen : gs.length ≤ 9223372036854775807 := by omega
  have HS := hid hs
  clear hs
  go_enter Tryz.func90, Tryz.ntmps90
  go_wp2
  go_loopg [2, 4, 7] gs.length (fun gg s2 _ s7 wr => ∃ k n : Nat, k ≤ gs.length ∧ gs.length - k ≤ gg ∧ s7 = .int .i64 k ∧ s2 = .int .i64 n ∧ n ≤ 4611686018427387904 ∧ Below w.heap.size w wr ∧ Rem (litSum gs) (n + litSum (gs.drop k)))
  case atStart => exact ⟨0, 0, Nat.zero_le _, by omega, rfl, rfl, by omega, Below.refl _ _, ⟨by simp⟩⟩
  case round =>
    obtain ⟨k, n, hk, hg, rfl, rfl, hn, hB, HA⟩ := hrel
    by_cases hlt : k < gs.length
    · obtain ⟨x, hx, hmem, hd⟩ := nth hlt
      obtain ⟨b, off, vi, rfl, hc0, hc1, hc2, hi, -, -, -⟩ := (h.keep (keeps_below hB)).at_ k x hx
      obtain ⟨Ai, ci, rfl, hli, hci⟩ := SlAt.form hi
      have hltz : (k : Int) < (gs.length : Int) := by omega
      have HD := hid hd
      have HX := hid hx
      have hbd : n + x.ins.length ≤ 4611686018427387904 := by
        have h1 := HS.out
        have h2 := HA.out
        rw [hd] at h2
        simp only [litSum] at h2
        omega
      clear hd hx
      go_wp2
      go_roundg (gs.length - (k + 1))
      case measure => omega
      case rel =>
        refine ⟨k + 1, n + x.ins.length, by omega, by omega, by go_num, by go_num, hbd, ?_, ⟨?_⟩⟩
        · exact ((hB.alloc hB.size _))
        · rw [HA.out, HD.out]; simp only [litSum]; omega
    · have hltz : ¬ (k : Int) < (gs.length : Int) := by omega
      go_wp2
      go_ret
      exact ⟨ret_int (by rw [HA.out, List.drop_eq_nil_of_le (by omega)]; simp [litSum]), hB⟩

def idxFrom {α : Type} (p : α → Bool) : Int → List α → Int
  | _, [] => -1
  | i, x :: xs => if p x then i else idxFrom p (i + 1) xs

set_option maxHeartbeats 1000000 in
theorem indexFunc_ints (p : Int → Bool) (g : Nat) (fs cb : Array Value) (eg : ∀ args w, (callFunc g args).run Tryz.prog w = .ok (.enter g args) w) (v : Value) (xs : List Int) (w : World)
    (Inv : World → Prop) (hI : Inv w) (hv : ∀ W, Inv W → IntsAt W v xs)
    (hcall : ∀ x W, x ∈ xs → Inv W → Calls Tryz.prog g (fs ++ #[.int .i64 x] ++ cb) W (fun e W' => e = .returned (.bool (p x)) ∧ Inv W')) :
    Calls Tryz.prog 85 #[v, .func (.func g) fs cb] w fun e w' => e = .returned (.int .i64 (idxFrom p 0 xs)) ∧ Inv w' := by
  obtain ⟨A, c, rfl, hlc, hcm⟩ := SlAt.form (hv w hI)
  have hlen : xs.length ≤ 9223372036854775807 := by omega
  go_enter Tryz.func85, Tryz.ntmps85
  go_wp2
  go_loopg [5, 8] xs.length (fun gg _ s8 wr => ∃ k : Nat, k ≤ xs.length ∧ xs.length - k ≤ gg ∧ s8 = .int .i64 k ∧ Inv wr ∧ Rem (idxFrom p 0 xs) (idxFrom p k (xs.drop k)))
  case atStart => exact ⟨0, Nat.zero_le _, by omega, rfl, hI, ⟨rfl⟩⟩
  case round =>
    obtain ⟨k, hk, hg, rfl, hIw, HA⟩ := hrel
    by_cases hlt : k < xs.length
    · obtain ⟨x, hx, hmem, hd⟩ := nth hlt
      obtain ⟨b, off, rfl, hc0, -⟩ := (hv wr hIw).at_ k x hx
      have hcall1 := hcall x wr hmem hIw
      have hltz : (k : Int) < (xs.length : Int) := by omega
      have HD := hid hd
      clear hd hx hcall hv
      cases hq : p x with
      | true =>
        rw [hq] at hcall1
        have HQ := hid hq
        clear hq
        go_wp2_with (go_at_fn g; refine hcall1.mono ?_; rintro e w' ⟨rfl, hI'⟩)
        go_ret
        exact ⟨ret_int (by rw [HA.out, HD.out]; simp [idxFrom, HQ.out]), hI'⟩
      | false =>
        rw [hq] at hcall1
        have HQ := hid hq
        clear hq
        go_wp2_with (go_at_fn g; refine hcall1.mono ?_; rintro e w' ⟨rfl, hI'⟩)
        go_roundg (xs.length - (k + 1))
        case measure => omega
        case rel => exact ⟨k + 1, by omega, by omega, by go_num, hI', ⟨by rw [HA.out, HD.out]; simp [idxFrom, HQ.out]⟩⟩
    · have hltz : ¬ (k : Int) < (xs.length : Int) := by omega
      go_wp2
      go_ret
      exact ⟨ret_int (by rw [HA.out, List.drop_eq_nil_of_le (by omega)]; rfl), hIw⟩

theorem idxFrom_nonneg {α : Type} (p : α → Bool) (xs : List α) : ∀ i : Int, 0 ≤ i → (0 ≤ idxFrom p i xs ↔ xs.any p = true) := by
  induction xs with
  | nil => intro i hi; simp [idxFrom]
  | cons x xs ih =>
    intro i hi
    unfold idxFrom
    rw [List.any_cons]
    by_cases h : p x = true
    · rw [if_pos h, h]; simpa using hi
    · rw [if_neg h, Bool.eq_false_iff.2 h, Bool.false_or]; exact ih (i + 1) (by omega)
theorem idxFrom_any {α : Type} (p : α → Bool) (xs : List α) : xs.any p = decide (0 ≤ idxFrom p 0 xs) := by
  rw [Bool.eq_iff_iff, decide_eq_true_eq]; exact (idxFrom_nonneg p xs 0 (by omega)).symm

set_option maxHeartbeats 1000000 in
theorem containsFunc_ints (p : Int → Bool) (g : Nat) (fs cb : Array Value) (eg : ∀ args w, (callFunc g args).run Tryz.prog w = .ok (.enter g args) w) (v : Value) (xs : List Int) (w : World)
    (Inv : World → Prop) (hI : Inv w) (hv : ∀ W, Inv W → IntsAt W v xs)
    (hcall : ∀ x W, x ∈ xs → Inv W → Calls Tryz.prog g (fs ++ #[.int .i64 x] ++ cb) W (fun e W' => e = .returned (.bool (p x)) ∧ Inv W')) :
    Calls Tryz.prog 43 #[v, .func (.func g) fs cb] w fun e w' => e = .returned (.bool (xs.any p)) ∧ Inv w' := by
  have C := indexFunc_ints p g fs cb eg v xs w Inv hI hv hcall
  rw [idxFrom_any]
  generalize idxFrom p 0 xs = r at C ⊢
  clear hcall hv hI
  go_enter Tryz.func43, Tryz.ntmps43
  go_wp2_with (go_at_call 85; refine C.mono ?_; rintro e w' ⟨rfl, hI'⟩)
  go_ret
  exact ⟨rfl, hI'⟩

def addVars : Nat → (Nat → Bool) → List Int → Option (Nat × (Nat → Bool))
  | n, S, [] => some (n, S)
  | n, S, v :: vs => if 1024 < n + 1 then none else if addB S v then addVars (n + 1) (upd S v.toNat true) vs else none
def prefFrom : Option Bool → Nat → (Nat → Bool) → List PBlock → Option (Nat → Bool)
  | _, _, S, [] => some S
  | prev, n, S, b :: bs => if b.vars = [] then none else if prev = some b.ex then none else
      match addVars n S b.vars with
      | none => none
      | some r => prefFrom (some b.ex) r.1 r.2 bs
/-- What stands behind the first block is the rest of the work. -/
def prefRest (n : Nat) (S : Nat → Bool) (vs : List Int) (ex : Bool) (bs : List PBlock) : Option (Nat → Bool) :=
  match addVars n S vs with
  | none => none
  | some r => prefFrom (some ex) r.1 r.2 bs
theorem prefFrom_go {prev : Option Bool} {n : Nat} {S : Nat → Bool} {b : PBlock} {bs : List PBlock} (h1 : b.vars ≠ []) (h2 : prev ≠ some b.ex) :
    prefFrom prev n S (b :: bs) = prefRest n S b.vars b.ex bs := by
  unfold prefFrom prefRest
  rw [if_neg h1, if_neg h2]
theorem prefRest_no {n : Nat} {S : Nat → Bool} {v : Int} {vs : List Int} {ex : Bool} {bs : List PBlock} (h : 1024 < n + 1 ∨ addB S v = false) :
    prefRest n S (v :: vs) ex bs = none := by
  unfold prefRest addVars
  rcases h with h | h
  · rw [if_pos h]
  · by_cases h2 : 1024 < n + 1
    · rw [if_pos h2]
    · rw [if_neg h2, if_neg (by rw [h]; simp)]
theorem prefRest_yes {n : Nat} {S : Nat → Bool} {v : Int} {vs : List Int} {ex : Bool} {bs : List PBlock} (h : ¬ 1024 < n + 1) (h2 : addB S v = true) :
    prefRest n S (v :: vs) ex bs = prefRest (n + 1) (upd S v.toNat true) vs ex bs := by
  unfold prefRest
  rw [addVars, if_neg h, if_pos h2]
theorem prefRest_nil {n : Nat} {S : Nat → Bool} {ex : Bool} {bs : List PBlock} : prefRest n S [] ex bs = prefFrom (some ex) n S bs := rfl

def prevOf (p : List PBlock) (k : Nat) : Option Bool := if k = 0 then none else (p[k - 1]?).map (·.ex)

/-- What prefix says, and what it leaves. -/
def PrefPost (w : World) (b t : Nat) (R : Option (Nat → Bool)) (e : Ending) (w' : World) : Prop :=
  e = .returned (.bool R.isSome) ∧ w.grownBy w' (some b) ∧ ∃ S', SetAt w' b t S' ∧ ∀ S2, R = some S2 → S' = S2

set_option maxHeartbeats 4000000 in
theorem prefix_K (bs t : Nat) (S : Nat → Bool) (v : Value) (p : List PBlock) (w w0 : World) (h : BlocksAt w0 v p) (hK : ∀ w', w.grownBy w' (some bs) → Keeps w0 w') (hs : SetAt w bs t S) :
    Calls Tryz.prog 98 #[.pointer (some ⟨bs, 0, none⟩), v] w (PrefPost w bs t (prefFrom none 0 S p)) := by
  obtain ⟨A, c, rfl, hlc, hcm⟩ := SlAt.form h
  have hlen : p.length ≤ 9223372036854775807 := by omega
  go_enter Tryz.func98, Tryz.ntmps98
  go_wp2
  go_loopg [5, 6, 7, 9, 12] p.length (fun gg s5 _ _ _ s12 wr => ∃ (k n : Nat) (Sc : Nat → Bool), k ≤ p.length ∧ p.length - k ≤ gg ∧ s12 = .int .i64 k ∧ s5 = .int .i64 n ∧ n ≤ 1024 ∧ w.grownBy wr (some bs) ∧ SetAt wr bs t Sc ∧
    Rem (prefFrom none 0 S p) (prefFrom (prevOf p k) n Sc (p.drop k)))
  case atStart => exact ⟨0, 0, S, Nat.zero_le _, by omega, rfl, rfl, by omega, World.grownBy.refl _ _, hs, ⟨rfl⟩⟩
  case round =>
    obtain ⟨k, n, Sc, hk, hg, rfl, rfl, hn, hG, hS, HA⟩ := hrel
    by_cases hlt : k < p.length
    · obtain ⟨x, hx, hmem, hd⟩ := nth hlt
      have hB0 : Keeps w0 wr := hK _ hG
      obtain ⟨b, off, vx, rfl, hc0, hc1, hi⟩ := (h.keep hB0).at_ k x hx
      obtain ⟨Ai, ci, rfl, hli, hci⟩ := SlAt.form hi
      have hltz : (k : Int) < (p.length : Int) := by omega
      have HD := hid hd
      have hlt3 := hS.lt
      have hlw := hS.lt
      by_cases hv0 : x.vars = []
      · have hz : ((x.vars.length : Int) == 0) = true := by rw [hv0]; rfl
        have HV := hid hv0
        clear hd hx hv0
        go_wp2_with fail
        go_quiet (fail)
        go_wp2
        go_ret
        have hR : prefFrom none 0 S p = none := by rw [HA.out, HD.out, prefFrom, if_pos HV.out]
        refine ⟨ret_bool (by rw [hR]; rfl), ?_, Sc, (hS.alloc _).drewN _, fun S2 h2 => by rw [hR] at h2; cases h2⟩
        exact hG.trans (grown_of_below (below_drewN ((Below.refl _ wr).alloc (Nat.le_refl _) _) _) _)
      · have hz : ((x.vars.length : Int) == 0) = false := by
          rw [beq_eq_false_iff_ne]; intro e; exact hv0 (List.eq_nil_of_length_eq_zero (by omega))
        have hcy : ∀ m, k = m + 1 → ∃ y, p[m]? = some y ∧ wr.cell? ⟨b, off + m * 2, none⟩ = some (.bool y.ex) ∧ prevOf p k = some y.ex := by
          intro m hm
          obtain ⟨y, hy, -, -⟩ := nth (show m < p.length by omega)
          obtain ⟨b', off', vy, eb, hcy, -, -⟩ := (h.keep hB0).at_ m y hy
          cases eb
          refine ⟨y, hy, hcy, ?_⟩
          unfold prevOf
          rw [if_neg (by omega), hm]
          simp [hy]
        by_cases hsame : prevOf p k = some x.ex
        · have hR : prefFrom none 0 S p = none := by rw [HA.out, HD.out, prefFrom, if_neg hv0, if_pos hsame]
          obtain ⟨m, rfl⟩ : ∃ m, k = m + 1 := by
            cases k with
            | zero => simp [prevOf] at hsame
            | succ m => exact ⟨m, rfl⟩
          obtain ⟨y, hy, hc2, hpy⟩ := hcy m rfl
          rw [hpy] at hsame
          have heq : (x.ex == y.ex) = true := by injection hsame with e; rw [e]; simp
          have HR := hid hR
          clear hd hx hcy hy hpy hsame hv0 hR
          have hw1 : IntKind.i64.wrap (m : Int) = m := IntWalk.i64_in _ (by omega)
          have hm0 : 0 ≤ (m : Int) := by omega
          have hm1 : (m : Int) < (p.length : Int) := by omega
          have hc3 : ∀ o, (wr.alloc o).cell? ⟨b, off + m * 2, none⟩ = some (.bool y.ex) := fun o => keeps_alloc wr o _ _ hc2
          go_wp2_with fail
          go_quiet (fail)
          go_wp2
          go_ret
          refine ⟨ret_bool (by rw [HR.out]; rfl), ?_, Sc, (hS.alloc _).drewN _, fun S2 h2 => by rw [HR.out] at h2; cases h2⟩
          exact hG.trans (grown_of_below (below_drewN ((Below.refl _ wr).alloc (Nat.le_refl _) _) _) _)
        · have hR : prefFrom none 0 S p = prefRest n Sc x.vars x.ex (p.drop (k + 1)) := by rw [HA.out, HD.out, prefFrom_go hv0 hsame]
          have HR := hid hR
          have HX := hid hx
          obtain ⟨b0, off0, vx0, e0, -, hc10, hi0⟩ := h.at_ k x hx
          cases e0
          obtain rfl : vx0 = .slice Ai x.vars.length ci := by
            have := hB0 _ _ hc10
            rw [hc1] at this
            injection this with this
            exact this.symm
          clear hR hd hx hc10 hi
          rcases Nat.eq_zero_or_pos k with h0 | h0
          · have hk0 : decide (0 < k) = false := by simp; omega
            have H0 := hid h0
            clear hcy hsame hv0 h0
            go_wp2_with fail
            go_quiet (fail)
            go_wp2
            have hG2 : w.grownBy ((wr.alloc (.cells #[.bool x.ex, .slice Ai x.vars.length ci] 71)).drewN nq) (some bs) :=
              hG.trans (grown_of_below (below_drewN ((Below.refl _ wr).alloc (Nat.le_refl _) _) _) _)
            have hS2 : SetAt ((wr.alloc (.cells #[.bool x.ex, .slice Ai x.vars.length ci] 71)).drewN nq) bs t Sc := (hS.alloc _).drewN _
            obtain ⟨W0, hW0⟩ : ∃ W0, (wr.alloc (.cells #[.bool x.ex, .slice Ai x.vars.length ci] 71)).drewN nq = W0 := ⟨_, rfl⟩
            rw [hW0] at hG2 hS2 ⊢
            clear hW0 HA
            go_loopg [5, 9, 39] x.vars.length (fun gg s5 _ s39 wr => ∃ (j n' : Nat) (Si : Nat → Bool), j ≤ x.vars.length ∧ x.vars.length - j ≤ gg ∧ s39 = .int .i64 j ∧ s5 = .int .i64 n' ∧ n' ≤ 1024 ∧ w.grownBy wr (some bs) ∧ SetAt wr bs t Si ∧
              Rem (prefFrom none 0 S p) (prefRest n' Si (x.vars.drop j) x.ex (p.drop (k + 1))))
            case atStart => exact ⟨0, n, Sc, Nat.zero_le _, by omega, rfl, rfl, hn, hG2, hS2, ⟨HR.out⟩⟩
            case round =>
              clear hG2 hS2 hc0 hc1
              obtain ⟨j, n', Si, hj, hgj, rfl, rfl, hn', hGi, hSi, HAi⟩ := hrel
              by_cases hltj : j < x.vars.length
              · obtain ⟨y, hy, -, hdy⟩ := nth hltj
                have hBi : Keeps w0 wr := hK _ hGi
                obtain ⟨bi, offi, rfl, hcy0, hyr⟩ := (hi0.keep hBi).at_ j y hy
                have hltzj : (j : Int) < (x.vars.length : Int) := by omega
                have HDy := hid hdy
                clear hdy hy hyr
                by_cases hq : 1024 < n' + 1
                · have hq2 : (1024 : Int) < (n' : Int) + 1 := by omega
                  go_wp2_with fail
                  go_ret
                  have hR : prefFrom none 0 S p = none := by rw [HAi.out, HDy.out, prefRest_no (.inl hq)]
                  exact ⟨ret_bool (by rw [hR]; rfl), hGi, Si, hSi, fun S2 h2 => by rw [hR] at h2; cases h2⟩
                · have hq2 : ¬ (1024 : Int) < (n' : Int) + 1 := by omega
                  cases hadd : addB Si y with
                  | false =>
                    have C := add_no bs t Si y wr hSi hadd
                    have HAD := hid hadd
                    clear hadd
                    go_wp2_with (go_at_call 86; refine C.mono ?_; rintro e w' ⟨rfl, rfl⟩)
                    go_ret
                    have hR : prefFrom none 0 S p = none := by rw [HAi.out, HDy.out, prefRest_no (.inr HAD.out)]
                    exact ⟨ret_bool (by rw [hR]; rfl), hGi, Si, hSi, fun S2 h2 => by rw [hR] at h2; cases h2⟩
                  | true =>
                    have C := add_any bs t Si y wr hSi
                    rw [hadd] at C
                    have HAD := hid hadd
                    clear hadd
                    go_wp2_with (go_at_call 86; refine C.mono ?_; rintro e w' ⟨rfl, hS', hG'⟩)
                    go_roundg (x.vars.length - (j + 1))
                    case measure => omega
                    case rel => exact ⟨j + 1, n' + 1, _, by omega, by omega, by go_num, by go_num, by omega, hGi.trans hG', hS', ⟨by rw [HAi.out, HDy.out, prefRest_yes hq HAD.out]; unfold addS; rw [if_pos HAD.out]⟩⟩
              · have hltzj : ¬ (j : Int) < (x.vars.length : Int) := by omega
                go_wp2_with fail
                go_roundg (p.length - (k + 1))
                case measure => omega
                case rel =>
                  refine ⟨k + 1, n', Si, by omega, by omega, by go_num, rfl, hn', hGi, hSi, ⟨?_⟩⟩
                  rw [HAi.out, List.drop_eq_nil_of_le (by omega : x.vars.length ≤ j), prefRest_nil]
                  unfold prevOf
                  rw [if_neg (by omega), Nat.add_sub_cancel, HX.out]
                  rfl
          · obtain ⟨y, hy, hc2, hpy⟩ := hcy (k - 1) (by omega)
            rw [hpy] at hsame
            have heq : (x.ex == y.ex) = false := by rw [beq_eq_false_iff_ne]; intro e; exact hsame (by rw [e])
            clear hcy hy hpy hsame hv0
            have hk0 : decide (0 < k) = true := by simp; omega
            have hw1 : IntKind.i64.wrap ((k : Int) - 1) = (k : Int) - 1 := IntWalk.i64_in _ (by omega)
            have hm0 : 1 ≤ (k : Int) := by omega
            have hm1 : (k : Int) - 1 < (p.length : Int) := by omega
            have hm2 : ((k : Int) - 1).toNat = k - 1 := by omega
            clear h0
            have hc3 : ∀ o, (wr.alloc o).cell? ⟨b, off + (k - 1) * 2, none⟩ = some (.bool y.ex) := fun o => keeps_alloc wr o _ _ hc2
            go_wp2_with fail
            go_quiet (fail)
            go_wp2
            have hG2 : w.grownBy ((wr.alloc (.cells #[.bool x.ex, .slice Ai x.vars.length ci] 71)).drewN nq) (some bs) :=
              hG.trans (grown_of_below (below_drewN ((Below.refl _ wr).alloc (Nat.le_refl _) _) _) _)
            have hS2 : SetAt ((wr.alloc (.cells #[.bool x.ex, .slice Ai x.vars.length ci] 71)).drewN nq) bs t Sc := (hS.alloc _).drewN _
            obtain ⟨W0, hW0⟩ : ∃ W0, (wr.alloc (.cells #[.bool x.ex, .slice Ai x.vars.length ci] 71)).drewN nq = W0 := ⟨_, rfl⟩
            rw [hW0] at hG2 hS2 ⊢
            clear hW0 hc3 HA hw1 hm2
            go_loopg [5, 9, 39] x.vars.length (fun gg s5 _ s39 wr => ∃ (j n' : Nat) (Si : Nat → Bool), j ≤ x.vars.length ∧ x.vars.length - j ≤ gg ∧ s39 = .int .i64 j ∧ s5 = .int .i64 n' ∧ n' ≤ 1024 ∧ w.grownBy wr (some bs) ∧ SetAt wr bs t Si ∧
              Rem (prefFrom none 0 S p) (prefRest n' Si (x.vars.drop j) x.ex (p.drop (k + 1))))
            case atStart => exact ⟨0, n, Sc, Nat.zero_le _, by omega, rfl, rfl, hn, hG2, hS2, ⟨HR.out⟩⟩
            case round =>
              clear hG2 hS2 hc0 hc1
              obtain ⟨j, n', Si, hj, hgj, rfl, rfl, hn', hGi, hSi, HAi⟩ := hrel
              by_cases hltj : j < x.vars.length
              · obtain ⟨y, hy, -, hdy⟩ := nth hltj
                have hBi : Keeps w0 wr := hK _ hGi
                obtain ⟨bi, offi, rfl, hcy0, hyr⟩ := (hi0.keep hBi).at_ j y hy
                have hltzj : (j : Int) < (x.vars.length : Int) := by omega
                have HDy := hid hdy
                clear hdy hy hyr
                by_cases hq : 1024 < n' + 1
                · have hq2 : (1024 : Int) < (n' : Int) + 1 := by omega
                  go_wp2_with fail
                  go_ret
                  have hR : prefFrom none 0 S p = none := by rw [HAi.out, HDy.out, prefRest_no (.inl hq)]
                  exact ⟨ret_bool (by rw [hR]; rfl), hGi, Si, hSi, fun S2 h2 => by rw [hR] at h2; cases h2⟩
                · have hq2 : ¬ (1024 : Int) < (n' : Int) + 1 := by omega
                  cases hadd : addB Si y with
                  | false =>
                    have C := add_no bs t Si y wr hSi hadd
                    have HAD := hid hadd
                    clear hadd
                    go_wp2_with (go_at_call 86; refine C.mono ?_; rintro e w' ⟨rfl, rfl⟩)
                    go_ret
                    have hR : prefFrom none 0 S p = none := by rw [HAi.out, HDy.out, prefRest_no (.inr HAD.out)]
                    exact ⟨ret_bool (by rw [hR]; rfl), hGi, Si, hSi, fun S2 h2 => by rw [hR] at h2; cases h2⟩
                  | true =>
                    have C := add_any bs t Si y wr hSi
                    rw [hadd] at C
                    have HAD := hid hadd
                    clear hadd
                    go_wp2_with (go_at_call 86; refine C.mono ?_; rintro e w' ⟨rfl, hS', hG'⟩)
                    go_roundg (x.vars.length - (j + 1))
                    case measure => omega
                    case rel => exact ⟨j + 1, n' + 1, _, by omega, by omega, by go_num, by go_num, by omega, hGi.trans hG', hS', ⟨by rw [HAi.out, HDy.out, prefRest_yes hq HAD.out]; unfold addS; rw [if_pos HAD.out]⟩⟩
              · have hltzj : ¬ (j : Int) < (x.vars.length : Int) := by omega
                go_wp2_with fail
                go_roundg (p.length - (k + 1))
                case measure => omega
                case rel =>
                  refine ⟨k + 1, n', Si, by omega, by omega, by go_num, rfl, hn', hGi, hSi, ⟨?_⟩⟩
                  rw [HAi.out, List.drop_eq_nil_of_le (by omega : x.vars.length ≤ j), prefRest_nil]
                  unfold prevOf
                  rw [if_neg (by omega), Nat.add_sub_cancel, HX.out]
                  rfl
    · have hltz : ¬ (k : Int) < (p.length : Int) := by omega
      go_wp2
      go_ret
      refine ⟨ret_bool ?_, hG, Sc, hS, ?_⟩
      · rw [HA.out, List.drop_eq_nil_of_le (by omega)]; rfl
      · intro S2 h2
        rw [HA.out, List.drop_eq_nil_of_le (by omega)] at h2
        injection h2
theorem prefix_any (bs t : Nat) (S : Nat → Bool) (v : Value) (p : List PBlock) (w w0 : World) (h : BlocksAt w0 v p) (hb : Below w0.heap.size w0 w) (hbs : w0.heap.size ≤ bs) (hs : SetAt w bs t S) :
    Calls Tryz.prog 98 #[.pointer (some ⟨bs, 0, none⟩), v] w (PrefPost w bs t (prefFrom none 0 S p)) :=
  prefix_K bs t S v p w w0 h (fun w' hG => keeps_below (hb.grown hG hb.size (fun q e => by cases e; exact hbs))) hs

def noS : Nat → Bool := fun _ => false
def mayGates (S : Nat → Bool) : List PGate → Option (Nat → Bool)
  | [] => some S
  | g :: gs => if shapedB g.kind g.ins.length = false then none else if (g.ins.any fun l => !S (absN l)) = true then none else
      if addB S g.var = true then mayGates (upd S g.var.toNat true) gs else none
/-- The variables of a net that is valid. -/
def mayS (N : PNet) : Option (Nat → Bool) :=
  match prefFrom none 0 noS N.pre with
  | none => none
  | some S => if 200000 < litSum N.gates then none else mayGates S N.gates
def mayP (N : PNet) : Bool := match mayS N with
  | none => false
  | some S => S (absN N.out)

theorem strange77 (b t : Nat) (S : Nat → Bool) (l : Int) (w : World) (hs : SetAt w b t S) :
    Calls Tryz.prog 99 (#[] ++ #[.int .i64 l] ++ #[.pointer (some ⟨b, 0, none⟩)]) w fun e w' => e = .returned (.bool (!S (absN l))) ∧ ∃ n, w' = w.drewN n := by
  have C := has_any b t S l w hs
  generalize S (absN l) = r at C ⊢
  go_enter Tryz.func99, Tryz.ntmps99
  go_wp2_with (go_at_call 89; refine C.mono ?_; rintro e w' ⟨rfl, n, rfl⟩)
  go_ret
  exact ⟨rfl, n, rfl⟩

set_option maxHeartbeats 4000000 in
theorem May_any (v : Value) (N : PNet) (w : World) (h : NetAt w v N) (hl : litSum N.gates ≤ 4611686018427387904) :
    Calls Tryz.prog 55 #[v] w fun e w' => e = .returned (.bool (mayP N)) ∧ Below w.heap.size w w' := by
  obtain ⟨vp, vg, rfl, ho, hp, hgt⟩ := h
  obtain ⟨W1, hW1⟩ : ∃ W1, (w.alloc (.cells #[vp, vg, .int .i64 N.out] 40)).alloc (.cells Tryz.zeroCells138 138) = W1 := ⟨_, rfl⟩
  have hS1 : SetAt W1 (w.heap.size + 1) 138 noS := by
    rw [← hW1]
    have := set_new (w.alloc (.cells #[vp, vg, .int .i64 N.out] 40)) 138
    rwa [World.size_alloc] at this
  have hB1 : Below w.heap.size w W1 := by rw [← hW1]; exact ((Below.refl _ w).alloc (Nat.le_refl _) _).alloc (by simp) _
  have C1 := prefix_any (w.heap.size + 1) 138 noS vp N.pre W1 w hp hB1 (by omega) hS1
  have hlt1 : w.heap.size + 1 < W1.heap.size := hS1.lt
  have hbox1 : W1.cell? ⟨w.heap.size, 0, none⟩ = some vp ∧ W1.cell? ⟨w.heap.size, 1, none⟩ = some vg ∧ W1.cell? ⟨w.heap.size, 2, none⟩ = some (.int .i64 N.out) := by
    have e : W1.heap[w.heap.size]? = some (.cells #[vp, vg, .int .i64 N.out] 40 (0, 0)) := by
      rw [← hW1, Below.heap_alloc _ _ _ (by simp)]; exact heap_alloc_new w _
    exact ⟨by rw [cell_of_row _ _ _ _ _ _ e]; rfl, by rw [cell_of_row _ _ _ _ _ _ e]; rfl, by rw [cell_of_row _ _ _ _ _ _ e]; rfl⟩
  obtain ⟨hb0, hb1, hb2⟩ := hbox1
  cases hpr : prefFrom none 0 noS N.pre with
  | none =>
    rw [hpr] at C1
    have HP := hid hpr
    clear hpr
    go_enter Tryz.func55, Tryz.ntmps55
    go_wp2_with fail
    refine C1.mono ?_
    rintro e w2 ⟨rfl, hG, S', hS', -⟩
    go_wp2_with fail
    go_ret
    exact ⟨ret_bool (by unfold mayP mayS; rw [HP.out]), hB1.grown hG hB1.size (fun k e => by cases e; omega)⟩
  | some S =>
    rw [hpr] at C1
    have HP := hid hpr
    clear hpr
    go_enter Tryz.func55, Tryz.ntmps55
    go_wp2_with fail
    refine C1.mono ?_
    rintro e w2 ⟨rfl, hG, S', hS', hSS⟩
    obtain rfl := hSS S rfl
    have hb1' := hG.cell hb1 (by simp)
    have hb2' := hG.cell hb2 (by simp)
    have hB2 : Below w.heap.size w w2 := hB1.grown hG hB1.size (fun k e => by cases e; omega)
    obtain ⟨A, c, rfl, hlc, hcm⟩ := SlAt.form hgt
    have hlen : N.gates.length ≤ 9223372036854775807 := by omega
    have C2 := literals_any _ N.gates w2 (hgt.keep (keeps_below hB2)) hl
    have hlt2 := hS'.lt
    clear hW1 hb0 hb1 hb2 hS1 hSS C1
    go_wp2_with fail
    refine C2.mono ?_
    rintro e w3 ⟨rfl, hB3⟩
    have hS3 := hS'.below hB3
    have hb23 := (hB3.cell (p := ⟨w.heap.size, 2, none⟩) (by simp; omega)).trans hb2'
    have hb13 := (hB3.cell (p := ⟨w.heap.size, 1, none⟩) (by simp; omega)).trans hb1'
    have hB4 := below_then hB2 hB2.size hB3
    clear hb2' hb1' C2 hG hB1 hB2 hS'
    go_wp2_with fail
    · go_ret
      exact ⟨ret_bool (by unfold mayP mayS; rw [HP.out]; simp only; rw [if_pos (by omega)]), hB4⟩
    · have hm : ¬ 200000 < litSum N.gates := by omega
      have hR : mayS N = mayGates S' N.gates := by unfold mayS; rw [HP.out]; simp only; rw [if_neg hm]
      have HR := hid hR
      clear hR hm
      go_loopg [6, 21] N.gates.length (fun gg _ s21 wr => ∃ (k : Nat) (Sc : Nat → Bool), k ≤ N.gates.length ∧ N.gates.length - k ≤ gg ∧ s21 = .int .i64 k ∧ Below w.heap.size w wr ∧ SetAt wr (w.heap.size + 1) 138 Sc ∧
        wr.cell? ⟨w.heap.size, 2, none⟩ = some (.int .i64 N.out) ∧ Rem (mayS N) (mayGates Sc (N.gates.drop k)))
      case atStart => exact ⟨0, S', Nat.zero_le _, by omega, rfl, hB4, hS3, hb23, ⟨HR.out⟩⟩
      case round =>
        clear hS3 hb23 hb13 hB4 HR
        obtain ⟨k, Sc, hk, hg, rfl, hB, hS, hb2, HA⟩ := hrel
        by_cases hlt : k < N.gates.length
        · obtain ⟨x, hx, hmem, hd⟩ := nth hlt
          obtain ⟨b, off, vi, rfl, hc0, hc1, hc2, hi, -, -, -⟩ := (hgt.keep (keeps_below hB)).at_ k x hx
          obtain ⟨Ai, ci, rfl, hli, hci⟩ := SlAt.form hi
          have hltz : (k : Int) < (N.gates.length : Int) := by omega
          have HD := hid hd
          have hS4 := hS.alloc (.cells #[.int .i64 x.var, .int .u8 x.kind, .slice Ai x.ins.length ci] 88)
          have hi4 := hi.keep (keeps_alloc wr (.cells #[.int .i64 x.var, .int .u8 x.kind, .slice Ai x.ins.length ci] 88))
          have hB4 : Below w.heap.size w (wr.alloc (.cells #[.int .i64 x.var, .int .u8 x.kind, .slice Ai x.ins.length ci] 88)) := hB.alloc hB.size _
          have hb24 := keeps_alloc wr (.cells #[.int .i64 x.var, .int .u8 x.kind, .slice Ai x.ins.length ci] 88) _ _ hb2
          have hb64 : ∀ j v, #[Value.int .i64 x.var, .int .u8 x.kind, .slice Ai x.ins.length ci][j]? = some v → (wr.alloc (.cells #[.int .i64 x.var, .int .u8 x.kind, .slice Ai x.ins.length ci] 88)).cell? ⟨wr.heap.size, j, none⟩ = some v := fun j v e => by
            rw [cell_of_row _ _ _ _ _ _ (heap_alloc_new wr _)]; exact e
          have hz4 : (wr.alloc (.cells #[.int .i64 x.var, .int .u8 x.kind, .slice Ai x.ins.length ci] 88)).heap.size = wr.heap.size + 1 := World.size_alloc _ _
          have hzl := hB.size
          obtain ⟨w4, hw4⟩ : ∃ w4, wr.alloc (.cells #[.int .i64 x.var, .int .u8 x.kind, .slice Ai x.ins.length ci] 88) = w4 := ⟨_, rfl⟩
          rw [hw4] at hS4 hi4 hB4 hb24 hb64 hz4
          have hb640 := hb64 0 _ rfl
          have hb641 := hb64 1 _ rfl
          have hb642 := hb64 2 _ rfl
          have C := shaped_any x.var x.kind Ai x.ins.length ci w4 (by omega)
          have HZ := hid hz4
          clear hd hx hb64 hz4 hb2 hS hB hi
          cases hsh : shapedB x.kind x.ins.length with
          | false =>
            rw [hsh] at C
            have HS := hid hsh
            clear hsh
            go_wp2_with fail
            refine C.mono ?_
            rintro e w5 ⟨rfl, hB5⟩
            go_wp2_with fail
            go_ret
            exact ⟨ret_bool (by unfold mayP; rw [HA.out, HD.out, mayGates, if_pos HS.out]), below_then hB4 hB4.size hB5⟩
          | true =>
            rw [hsh] at C
            have HS := hid hsh
            clear hsh
            go_wp2_with fail
            refine C.mono ?_
            rintro e w5 ⟨rfl, hB5⟩
            have hlt4 := hS4.lt
            have hS5 := hS4.below hB5
            have hB6 := below_then hB4 hB4.size hB5
            have hb25 := keeps_below hB5 _ _ hb24
            have hi5 := hi4.keep (keeps_below hB5)
            have hb650 := keeps_below hB5 _ _ hb640
            have hb652 := keeps_below hB5 _ _ hb642
            have C2 := containsFunc_ints (fun l => !Sc (absN l)) 99 #[] #[.pointer (some ⟨w.heap.size + 1, 0, none⟩)] (enters_of Tryz.func99 (by kernel_rfl) rfl) _ x.ins w5
              (fun W => Below w5.heap.size w5 W) (Below.refl _ _) (fun W hW => hi5.keep (keeps_below hW))
              (fun l W _ hW => (strange77 (w.heap.size + 1) 138 Sc l W (hS5.below hW)).mono fun e W' ⟨he, n, hw⟩ => ⟨he, by rw [hw]; exact below_drewN hW n⟩)
            clear hS4 hi4 hB4 hb24 hb640 hb641 hb642 hB5 C hw4 hi5
            cases hany : x.ins.any (fun l => !Sc (absN l)) with
            | true =>
              rw [hany] at C2
              have HY := hid hany
              clear hany
              go_wp2_with fail
              refine C2.mono ?_
              rintro e w7 ⟨rfl, hB7⟩
              go_wp2_with fail
              go_ret
              exact ⟨ret_bool (by unfold mayP; rw [HA.out, HD.out, mayGates, if_neg (by rw [HS.out]; simp), if_pos HY.out]), below_then hB6 hB6.size hB7⟩
            | false =>
              rw [hany] at C2
              have HY := hid hany
              clear hany
              go_wp2_with fail
              refine C2.mono ?_
              rintro e w7 ⟨rfl, hB7⟩
              have hS7 := hS5.below hB7
              have hB8 := below_then hB6 hB6.size hB7
              have hb27 := keeps_below hB7 _ _ hb25
              have hb670 := keeps_below hB7 _ _ hb650
              have C3 := add_any (w.heap.size + 1) 138 Sc x.var w7 hS7
              clear hS5 hB6 hb25 hb650 hb652 hB7 C2
              cases hadd : addB Sc x.var with
              | false =>
                rw [hadd] at C3
                have HAD := hid hadd
                clear hadd
                go_wp2_with fail
                refine C3.mono ?_
                rintro e w9 ⟨rfl, -, hG9⟩
                go_wp2_with fail
                go_ret
                exact ⟨ret_bool (by unfold mayP; rw [HA.out, HD.out, mayGates, if_neg (by rw [HS.out]; simp), if_neg (by rw [HY.out]; simp), if_neg (by rw [HAD.out]; simp)]), hB8.grown hG9 hB8.size (fun q e => by cases e; omega)⟩
              | true =>
                rw [hadd] at C3
                have HAD := hid hadd
                clear hadd
                go_wp2_with fail
                refine C3.mono ?_
                rintro e w9 ⟨rfl, hS9, hG9⟩
                go_wp2_with fail
                go_roundg (N.gates.length - (k + 1))
                case measure => omega
                case rel =>
                  refine ⟨k + 1, _, by omega, by omega, by go_num, hB8.grown hG9 hB8.size (fun q e => by cases e; omega), hS9, hG9.cell hb27 (by simp), ⟨?_⟩⟩
                  rw [HA.out, HD.out, mayGates, if_neg (by rw [HS.out]; simp), if_neg (by rw [HY.out]; simp), if_pos HAD.out]
                  unfold addS
                  rw [if_pos HAD.out]
        · have hltz : ¬ (k : Int) < (N.gates.length : Int) := by omega
          have C := has_any (w.heap.size + 1) 138 Sc N.out wr hS
          have hR : mayP N = Sc (absN N.out) := by unfold mayP; rw [HA.out, List.drop_eq_nil_of_le (by omega)]; rfl
          generalize Sc (absN N.out) = r at C hR
          have HR := hid hR
          clear hR
          go_wp2_with fail
          refine C.mono ?_
          rintro e w5 ⟨rfl, n, rfl⟩
          go_wp2_with fail
          go_ret
          exact ⟨ret_bool HR.out.symm, below_drewN hB n⟩
end Go.Proofs.YtnlobmepajakcaaGreatDoor
