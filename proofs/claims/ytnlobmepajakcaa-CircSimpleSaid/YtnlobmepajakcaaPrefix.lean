/- What (*set).prefix and circ.May do; no condition but that what they are given reads as data (May: that its gates have at most 2^62 literals). -/
import Derived.Test.YtnlobmepajakcaaLeafB
import Derived.IntWalk
set_option linter.unusedVariables false
set_option linter.unusedSimpArgs false
namespace Go.Proofs.Ytnlobmepajakcaa
open Go.RowKit Go.Shelf

def addVars : Nat → (Nat → Bool) → List Int → Option (Nat × (Nat → Bool))
  | n, S, [] => some (n, S)
  | n, S, v :: vs => if 1024 < n + 1 then none else if addB S v then addVars (n + 1) (upd S v.toNat true) vs else none
def prefFrom : Option Bool → Nat → (Nat → Bool) → List PBlock → Option (Nat → Bool)
  | _, _, S, [] => some S
  | prev, n, S, b :: bs => if b.vars = [] then none else if prev = some b.ex then none else
      match addVars n S b.vars with
      | none => none
      | some r => prefFrom (some b.ex) r.1 r.2 bs
/-- What stands behind the first block is the rest of the work. -/
def prefRest (n : Nat) (S : Nat → Bool) (vs : List Int) (ex : Bool) (bs : List PBlock) : Option (Nat → Bool) :=
  match addVars n S vs with
  | none => none
  | some r => prefFrom (some ex) r.1 r.2 bs
theorem prefFrom_go {prev : Option Bool} {n : Nat} {S : Nat → Bool} {b : PBlock} {bs : List PBlock} (h1 : b.vars ≠ []) (h2 : prev ≠ some b.ex) :
    prefFrom prev n S (b :: bs) = prefRest n S b.vars b.ex bs := by
  unfold prefFrom prefRest
  rw [if_neg h1, if_neg h2]
theorem prefRest_no {n : Nat} {S : Nat → Bool} {v : Int} {vs : List Int} {ex : Bool} {bs : List PBlock} (h : 1024 < n + 1 ∨ addB S v = false) :
    prefRest n S (v :: vs) ex bs = none := by
  unfold prefRest addVars
  rcases h with h | h
  · rw [if_pos h]
  · by_cases h2 : 1024 < n + 1
    · rw [if_pos h2]
    · rw [if_neg h2, if_neg (by rw [h]; simp)]
theorem prefRest_yes {n : Nat} {S : Nat → Bool} {v : Int} {vs : List Int} {ex : Bool} {bs : List PBlock} (h : ¬ 1024 < n + 1) (h2 : addB S v = true) :
    prefRest n S (v :: vs) ex bs = prefRest (n + 1) (upd S v.toNat true) vs ex bs := by
  unfold prefRest
  rw [addVars, if_neg h, if_pos h2]
theorem prefRest_nil {n : Nat} {S : Nat → Bool} {ex : Bool} {bs : List PBlock} : prefRest n S [] ex bs = prefFrom (some ex) n S bs := rfl

def prevOf (p : List PBlock) (k : Nat) : Option Bool := if k = 0 then none else (p[k - 1]?).map (·.ex)

/-- What prefix says, and what it leaves. -/
def PrefPost (w : World) (b t : Nat) (R : Option (Nat → Bool)) (e : Ending) (w' : World) : Prop :=
  e = .returned (.bool R.isSome) ∧ w.grownBy w' (some b) ∧ ∃ S', SetAt w' b t S' ∧ ∀ S2, R = some S2 → S' = S2

set_option maxHeartbeats 4000000 in
theorem prefix_K (bs t : Nat) (S : Nat → Bool) (v : Value) (p : List PBlock) (w w0 : World) (h : BlocksAt w0 v p) (hK : ∀ w', w.grownBy w' (some bs) → Keeps w0 w') (hs : SetAt w bs t S) :
    Calls Try.prog 42 #[.pointer (some ⟨bs, 0, none⟩), v] w (PrefPost w bs t (prefFrom none 0 S p)) := by
  obtain ⟨A, c, rfl, hlc, hcm⟩ := SlAt.form h
  have hlen : p.length ≤ 9223372036854775807 := by omega
  go_enter Try.func42, Try.ntmps42
  go_wp2
  go_loopg [5, 6, 7, 9, 12] p.length (fun gg s5 _ _ _ s12 wr => ∃ (k n : Nat) (Sc : Nat → Bool), k ≤ p.length ∧ p.length - k ≤ gg ∧ s12 = .int .i64 k ∧ s5 = .int .i64 n ∧ n ≤ 1024 ∧ w.grownBy wr (some bs) ∧ SetAt wr bs t Sc ∧
    Rem (prefFrom none 0 S p) (prefFrom (prevOf p k) n Sc (p.drop k)))
  case atStart => exact ⟨0, 0, S, Nat.zero_le _, by omega, rfl, rfl, by omega, World.grownBy.refl _ _, hs, ⟨rfl⟩⟩
  case round =>
    obtain ⟨k, n, Sc, hk, hg, rfl, rfl, hn, hG, hS, HA⟩ := hrel
    by_cases hlt : k < p.length
    · obtain ⟨x, hx, hmem, hd⟩ := nth hlt
      have hB0 : Keeps w0 wr := hK _ hG
      obtain ⟨b, off, vx, rfl, hc0, hc1, hi⟩ := (h.keep hB0).at_ k x hx
      obtain ⟨Ai, ci, rfl, hli, hci⟩ := SlAt.form hi
      have hltz : (k : Int) < (p.length : Int) := by omega
      have HD := hid hd
      have hlt3 := hS.lt
      have hlw := hS.lt
      by_cases hv0 : x.vars = []
      · have hz : ((x.vars.length : Int) == 0) = true := by rw [hv0]; rfl
        have HV := hid hv0
        clear hd hx hv0
        go_wp2_with fail
        go_quiet (fail)
        go_wp2
        go_ret
        have hR : prefFrom none 0 S p = none := by rw [HA.out, HD.out, prefFrom, if_pos HV.out]
        refine ⟨ret_bool (by rw [hR]; rfl), ?_, Sc, (hS.alloc _).drewN _, fun S2 h2 => by rw [hR] at h2; cases h2⟩
        exact hG.trans (grown_of_below (below_drewN ((Below.refl _ wr).alloc (Nat.le_refl _) _) _) _)
      · have hz : ((x.vars.length : Int) == 0) = false := by
          rw [beq_eq_false_iff_ne]; intro e; exact hv0 (List.eq_nil_of_length_eq_zero (by omega))
        have hcy : ∀ m, k = m + 1 → ∃ y, p[m]? = some y ∧ wr.cell? ⟨b, off + m * 2, none⟩ = some (.bool y.ex) ∧ prevOf p k = some y.ex := by
          intro m hm
          obtain ⟨y, hy, -, -⟩ := nth (show m < p.length by omega)
          obtain ⟨b', off', vy, eb, hcy, -, -⟩ := (h.keep hB0).at_ m y hy
          cases eb
          refine ⟨y, hy, hcy, ?_⟩
          unfold prevOf
          rw [if_neg (by omega), hm]
          simp [hy]
        by_cases hsame : prevOf p k = some x.ex
        · have hR : prefFrom none 0 S p = none := by rw [HA.out, HD.out, prefFrom, if_neg hv0, if_pos hsame]
          obtain ⟨m, rfl⟩ : ∃ m, k = m + 1 := by
            cases k with
            | zero => simp [prevOf] at hsame
            | succ m => exact ⟨m, rfl⟩
          obtain ⟨y, hy, hc2, hpy⟩ := hcy m rfl
          rw [hpy] at hsame
          have heq : (x.ex == y.ex) = true := by injection hsame with e; rw [e]; simp
          have HR := hid hR
          clear hd hx hcy hy hpy hsame hv0 hR
          have hw1 : IntKind.i64.wrap (m : Int) = m := IntWalk.i64_in _ (by omega)
          have hm0 : 0 ≤ (m : Int) := by omega
          have hm1 : (m : Int) < (p.length : Int) := by omega
          have hc3 : ∀ o, (wr.alloc o).cell? ⟨b, off + m * 2, none⟩ = some (.bool y.ex) := fun o => keeps_alloc wr o _ _ hc2
          go_wp2_with fail
          go_quiet (fail)
          go_wp2
          go_ret
          refine ⟨ret_bool (by rw [HR.out]; rfl), ?_, Sc, (hS.alloc _).drewN _, fun S2 h2 => by rw [HR.out] at h2; cases h2⟩
          exact hG.trans (grown_of_below (below_drewN ((Below.refl _ wr).alloc (Nat.le_refl _) _) _) _)
        · have hR : prefFrom none 0 S p = prefRest n Sc x.vars x.ex (p.drop (k + 1)) := by rw [HA.out, HD.out, prefFrom_go hv0 hsame]
          have HR := hid hR
          have HX := hid hx
          obtain ⟨b0, off0, vx0, e0, -, hc10, hi0⟩ := h.at_ k x hx
          cases e0
          obtain rfl : vx0 = .slice Ai x.vars.length ci := by
            have := hB0 _ _ hc10
            rw [hc1] at this
            injection this with this
            exact this.symm
          clear hR hd hx hc10 hi
          rcases Nat.eq_zero_or_pos k with h0 | h0
          · have hk0 : decide (0 < k) = false := by simp; omega
            have H0 := hid h0
            clear hcy hsame hv0 h0
            go_wp2_with fail
            go_quiet (fail)
            go_wp2
            have hG2 : w.grownBy ((wr.alloc (.cells #[.bool x.ex, .slice Ai x.vars.length ci] 80)).drewN nq) (some bs) :=
              hG.trans (grown_of_below (below_drewN ((Below.refl _ wr).alloc (Nat.le_refl _) _) _) _)
            have hS2 : SetAt ((wr.alloc (.cells #[.bool x.ex, .slice Ai x.vars.length ci] 80)).drewN nq) bs t Sc := (hS.alloc _).drewN _
            obtain ⟨W0, hW0⟩ : ∃ W0, (wr.alloc (.cells #[.bool x.ex, .slice Ai x.vars.length ci] 80)).drewN nq = W0 := ⟨_, rfl⟩
            rw [hW0] at hG2 hS2 ⊢
            clear hW0 HA
            go_loopg [5, 9, 39] x.vars.length (fun gg s5 _ s39 wr => ∃ (j n' : Nat) (Si : Nat → Bool), j ≤ x.vars.length ∧ x.vars.length - j ≤ gg ∧ s39 = .int .i64 j ∧ s5 = .int .i64 n' ∧ n' ≤ 1024 ∧ w.grownBy wr (some bs) ∧ SetAt wr bs t Si ∧
              Rem (prefFrom none 0 S p) (prefRest n' Si (x.vars.drop j) x.ex (p.drop (k + 1))))
            case atStart => exact ⟨0, n, Sc, Nat.zero_le _, by omega, rfl, rfl, hn, hG2, hS2, ⟨HR.out⟩⟩
            case round =>
              clear hG2 hS2 hc0 hc1
              obtain ⟨j, n', Si, hj, hgj, rfl, rfl, hn', hGi, hSi, HAi⟩ := hrel
              by_cases hltj : j < x.vars.length
              · obtain ⟨y, hy, -, hdy⟩ := nth hltj
                have hBi : Keeps w0 wr := hK _ hGi
                obtain ⟨bi, offi, rfl, hcy0, hyr⟩ := (hi0.keep hBi).at_ j y hy
                have hltzj : (j : Int) < (x.vars.length : Int) := by omega
                have HDy := hid hdy
                clear hdy hy hyr
                by_cases hq : 1024 < n' + 1
                · have hq2 : (1024 : Int) < (n' : Int) + 1 := by omega
                  go_wp2_with fail
                  go_ret
                  have hR : prefFrom none 0 S p = none := by rw [HAi.out, HDy.out, prefRest_no (.inl hq)]
                  exact ⟨ret_bool (by rw [hR]; rfl), hGi, Si, hSi, fun S2 h2 => by rw [hR] at h2; cases h2⟩
                · have hq2 : ¬ (1024 : Int) < (n' : Int) + 1 := by omega
                  cases hadd : addB Si y with
                  | false =>
                    have C := add_no bs t Si y wr hSi hadd
                    have HAD := hid hadd
                    clear hadd
                    go_wp2_with (go_at_call 65; refine C.mono ?_; rintro e w' ⟨rfl, rfl⟩)
                    go_ret
                    have hR : prefFrom none 0 S p = none := by rw [HAi.out, HDy.out, prefRest_no (.inr HAD.out)]
                    exact ⟨ret_bool (by rw [hR]; rfl), hGi, Si, hSi, fun S2 h2 => by rw [hR] at h2; cases h2⟩
                  | true =>
                    have C := add_any bs t Si y wr hSi
                    rw [hadd] at C
                    have HAD := hid hadd
                    clear hadd
                    go_wp2_with (go_at_call 65; refine C.mono ?_; rintro e w' ⟨rfl, hS', hG'⟩)
                    go_roundg (x.vars.length - (j + 1))
                    case measure => omega
                    case rel => exact ⟨j + 1, n' + 1, _, by omega, by omega, by go_num, by go_num, by omega, hGi.trans hG', hS', ⟨by rw [HAi.out, HDy.out, prefRest_yes hq HAD.out]; unfold addS; rw [if_pos HAD.out]⟩⟩
              · have hltzj : ¬ (j : Int) < (x.vars.length : Int) := by omega
                go_wp2_with fail
                go_roundg (p.length - (k + 1))
                case measure => omega
                case rel =>
                  refine ⟨k + 1, n', Si, by omega, by omega, by go_num, rfl, hn', hGi, hSi, ⟨?_⟩⟩
                  rw [HAi.out, List.drop_eq_nil_of_le (by omega : x.vars.length ≤ j), prefRest_nil]
                  unfold prevOf
                  rw [if_neg (by omega), Nat.add_sub_cancel, HX.out]
                  rfl
          · obtain ⟨y, hy, hc2, hpy⟩ := hcy (k - 1) (by omega)
            rw [hpy] at hsame
            have heq : (x.ex == y.ex) = false := by rw [beq_eq_false_iff_ne]; intro e; exact hsame (by rw [e])
            clear hcy hy hpy hsame hv0
            have hk0 : decide (0 < k) = true := by simp; omega
            have hw1 : IntKind.i64.wrap ((k : Int) - 1) = (k : Int) - 1 := IntWalk.i64_in _ (by omega)
            have hm0 : 1 ≤ (k : Int) := by omega
            have hm1 : (k : Int) - 1 < (p.length : Int) := by omega
            have hm2 : ((k : Int) - 1).toNat = k - 1 := by omega
            clear h0
            have hc3 : ∀ o, (wr.alloc o).cell? ⟨b, off + (k - 1) * 2, none⟩ = some (.bool y.ex) := fun o => keeps_alloc wr o _ _ hc2
            go_wp2_with fail
            go_quiet (fail)
            go_wp2
            have hG2 : w.grownBy ((wr.alloc (.cells #[.bool x.ex, .slice Ai x.vars.length ci] 80)).drewN nq) (some bs) :=
              hG.trans (grown_of_below (below_drewN ((Below.refl _ wr).alloc (Nat.le_refl _) _) _) _)
            have hS2 : SetAt ((wr.alloc (.cells #[.bool x.ex, .slice Ai x.vars.length ci] 80)).drewN nq) bs t Sc := (hS.alloc _).drewN _
            obtain ⟨W0, hW0⟩ : ∃ W0, (wr.alloc (.cells #[.bool x.ex, .slice Ai x.vars.length ci] 80)).drewN nq = W0 := ⟨_, rfl⟩
            rw [hW0] at hG2 hS2 ⊢
            clear hW0 hc3 HA hw1 hm2
            go_loopg [5, 9, 39] x.vars.length (fun gg s5 _ s39 wr => ∃ (j n' : Nat) (Si : Nat → Bool), j ≤ x.vars.length ∧ x.vars.length - j ≤ gg ∧ s39 = .int .i64 j ∧ s5 = .int .i64 n' ∧ n' ≤ 1024 ∧ w.grownBy wr (some bs) ∧ SetAt wr bs t Si ∧
              Rem (prefFrom none 0 S p) (prefRest n' Si (x.vars.drop j) x.ex (p.drop (k + 1))))
            case atStart => exact ⟨0, n, Sc, Nat.zero_le _, by omega, rfl, rfl, hn, hG2, hS2, ⟨HR.out⟩⟩
            case round =>
              clear hG2 hS2 hc0 hc1
              obtain ⟨j, n', Si, hj, hgj, rfl, rfl, hn', hGi, hSi, HAi⟩ := hrel
              by_cases hltj : j < x.vars.length
              · obtain ⟨y, hy, -, hdy⟩ := nth hltj
                have hBi : Keeps w0 wr := hK _ hGi
                obtain ⟨bi, offi, rfl, hcy0, hyr⟩ := (hi0.keep hBi).at_ j y hy
                have hltzj : (j : Int) < (x.vars.length : Int) := by omega
                have HDy := hid hdy
                clear hdy hy hyr
                by_cases hq : 1024 < n' + 1
                · have hq2 : (1024 : Int) < (n' : Int) + 1 := by omega
                  go_wp2_with fail
                  go_ret
                  have hR : prefFrom none 0 S p = none := by rw [HAi.out, HDy.out, prefRest_no (.inl hq)]
                  exact ⟨ret_bool (by rw [hR]; rfl), hGi, Si, hSi, fun S2 h2 => by rw [hR] at h2; cases h2⟩
                · have hq2 : ¬ (1024 : Int) < (n' : Int) + 1 := by omega
                  cases hadd : addB Si y with
                  | false =>
                    have C := add_no bs t Si y wr hSi hadd
                    have HAD := hid hadd
                    clear hadd
                    go_wp2_with (go_at_call 65; refine C.mono ?_; rintro e w' ⟨rfl, rfl⟩)
                    go_ret
                    have hR : prefFrom none 0 S p = none := by rw [HAi.out, HDy.out, prefRest_no (.inr HAD.out)]
                    exact ⟨ret_bool (by rw [hR]; rfl), hGi, Si, hSi, fun S2 h2 => by rw [hR] at h2; cases h2⟩
                  | true =>
                    have C := add_any bs t Si y wr hSi
                    rw [hadd] at C
                    have HAD := hid hadd
                    clear hadd
                    go_wp2_with (go_at_call 65; refine C.mono ?_; rintro e w' ⟨rfl, hS', hG'⟩)
                    go_roundg (x.vars.length - (j + 1))
                    case measure => omega
                    case rel => exact ⟨j + 1, n' + 1, _, by omega, by omega, by go_num, by go_num, by omega, hGi.trans hG', hS', ⟨by rw [HAi.out, HDy.out, prefRest_yes hq HAD.out]; unfold addS; rw [if_pos HAD.out]⟩⟩
              · have hltzj : ¬ (j : Int) < (x.vars.length : Int) := by omega
                go_wp2_with fail
                go_roundg (p.length - (k + 1))
                case measure => omega
                case rel =>
                  refine ⟨k + 1, n', Si, by omega, by omega, by go_num, rfl, hn', hGi, hSi, ⟨?_⟩⟩
                  rw [HAi.out, List.drop_eq_nil_of_le (by omega : x.vars.length ≤ j), prefRest_nil]
                  unfold prevOf
                  rw [if_neg (by omega), Nat.add_sub_cancel, HX.out]
                  rfl
    · have hltz : ¬ (k : Int) < (p.length : Int) := by omega
      go_wp2
      go_ret
      refine ⟨ret_bool ?_, hG, Sc, hS, ?_⟩
      · rw [HA.out, List.drop_eq_nil_of_le (by omega)]; rfl
      · intro S2 h2
        rw [HA.out, List.drop_eq_nil_of_le (by omega)] at h2
        injection h2
theorem prefix_any (bs t : Nat) (S : Nat → Bool) (v : Value) (p : List PBlock) (w w0 : World) (h : BlocksAt w0 v p) (hb : Below w0.heap.size w0 w) (hbs : w0.heap.size ≤ bs) (hs : SetAt w bs t S) :
    Calls Try.prog 42 #[.pointer (some ⟨bs, 0, none⟩), v] w (PrefPost w bs t (prefFrom none 0 S p)) :=
  prefix_K bs t S v p w w0 h (fun w' hG => keeps_below (hb.grown hG hb.size (fun q e => by cases e; exact hbs))) hs
end Go.Proofs.Ytnlobmepajakcaa
