/- What the reference's Support does; the conditions: the net reads as data, with at most 300 gates and 1,500 literals. -/
import Derived.Test.YtnlobmepajakcaaRefR
set_option linter.unusedVariables false
set_option linter.unusedSimpArgs false
namespace Go.Proofs.Ytnlobmepajakcaa
open Go.RowKit Go.Shelf

/-- A list, and an error. -/
def IntsPost (r : List Int × Int) (w : World) (e : Ending) (w' : World) : Prop :=
  Below w.heap.size w w' ∧ ∃ v, e = .returned (.tuple #[v, .int .i64 r.2]) ∧ IntsAt w' v r.1
def supTo (T S : Nat → Bool) (k : Nat) : List Int := ((List.range k).filter fun i => T i && S i).map Int.ofNat
theorem supTo_succ (T S : Nat → Bool) (k : Nat) : supTo T S (k + 1) = if (T k && S k) = true then supTo T S k ++ [(k : Int)] else supTo T S k := by
  unfold supTo
  rw [List.range_succ, List.filter_append]
  by_cases h : (T k && S k) = true
  · rw [if_pos h, List.map_append]; simp [h]
  · rw [if_neg h]; simp [h]
theorem supTo_len (T S : Nat → Bool) (k : Nat) : (supTo T S k).length ≤ k := by
  unfold supTo
  rw [List.length_map]
  exact Nat.le_trans (List.length_filter_le _ _) (by simp)
theorem supTo_64 (T S : Nat → Bool) (k : Nat) (hk : k ≤ 65537) : ∀ x ∈ supTo T S k, I64 x := fun x hx => by
  unfold supTo at hx
  obtain ⟨i, hi, rfl⟩ := List.mem_map.1 hx
  have := List.mem_range.1 (List.mem_filter.1 hi).1
  show I64 (i : Int)
  unfold I64; omega
theorem supTo_one {T S : Nat → Bool} (hS : SetR S) : supTo T S 1 = [] := by
  have : S 0 = false := by
    cases h : S 0 with
    | false => rfl
    | true => have := (hS 0 h).1; omega
  rw [supTo_succ, this, Bool.and_false]
  rfl
set_option maxRecDepth 100000 in
set_option maxHeartbeats 2000000 in
theorem SupportR_any (v : Value) (N : PNet) (lit : Int) (w : World) (h : NetAt w v N) (h64 : I64 lit) (hl : litSum N.gates ≤ 1500) (hgl : N.gates.length ≤ 300) :
    Calls Try.prog 35 #[v, .int .i64 lit] w (IntsPost (supportP N lit) w) := by
  have hN := h
  obtain ⟨vp, vg, rfl, ho, hp, hgt⟩ := h
  obtain ⟨Ap, cp, rfl, hlp, hcp⟩ := hp.form
  obtain ⟨Ag, cg, rfl, hlg, hcg⟩ := hgt.form
  obtain ⟨w1, hw1, -, -, z1, hB1, q1⟩ := new_block w #[.slice Ap N.pre.length cp, .slice Ag N.gates.length cg, .int .i64 N.out] 25
  have rows : ∀ W, Below w1.heap.size w1 W → W.cell? ⟨w.heap.size, 0, none⟩ = some (.slice Ap N.pre.length cp) ∧ W.cell? ⟨w.heap.size, 1, none⟩ = some (.slice Ag N.gates.length cg) ∧ W.cell? ⟨w.heap.size, 2, none⟩ = some (.int .i64 N.out) := fun W hW =>
    ⟨cell_row (row_below q1 hW) rfl, cell_row (row_below q1 hW) rfl, cell_row (row_below q1 hW) rfl⟩
  have CM := MayR_any _ N w1 (hN.keep (keeps_below hB1)) hl hgl
  obtain ⟨a0, a1, a2⟩ := rows w1 (Below.refl _ _)
  go_enter Try.func35, Try.ntmps35
  cases hm : mayP N with
  | false =>
    rw [hm] at CM
    have e : supportP N lit = ([], 2) := by unfold supportP; rw [if_pos hm]
    unfold IntsPost
    rw [e]
    clear e hm
    go_wp2_with (go_at_call 18; refine CM.mono ?_; rintro e w2 ⟨rfl, hB2⟩)
    go_ret2
    exact ⟨below_then hB1 hB1.size hB2, _, rfl, ints_none _⟩
  | true =>
    rw [hm] at CM
    have hps : (prefFrom none 0 noS N.pre).isSome = true := by rw [(mayP_pre hm).1]; rfl
    obtain ⟨hr1, hr2⟩ := pre_rng hps
    have hne := alt_ne (preS_of hps).1
    have hset : setOf (varsOf N.pre) = preS N := by funext i; rw [preS_iff hps]; rfl
    obtain ⟨hpre, -, Sf, hSf, -⟩ := mayP_pre hm
    have hR := preS_R hps
    have hRf : SetR (usedG (preS N) N.gates) := by rw [← may_used _ hSf]; exact (mayGates_lits _ hR hSf).1
    have hgv := hid (mayP_gates hm)
    have hgl' := hid (may_lits hm).1
    have HM := hid hm
    have CV := fun W (hW : Below w1.heap.size w1 W) => Vars_any _ N.pre W (hp.keep (keeps_below (below_then hB1 hB1.size hW))) hne (by omega)
    have CK := fun (A : Option Addr) (c : Nat) (W : World) (hO : W.ownsRow W.heap.size 3 1 (.slice A (varsOf N.pre).length c) (varsOf N.pre).length (nums (varsOf N.pre))) => True
    clear hpre hSf hm CK
    go_wp2_with (go_at_call 18; refine CM.mono ?_; rintro e w2 ⟨rfl, hB2⟩; obtain ⟨b0, b1, b2⟩ := rows w2 hB2)
    refine (CV _ hB2).mono ?_
    rintro e w3 ⟨vv, rfl, hOv, hB3⟩
    obtain ⟨Av, cv, rfl⟩ := own_shape hOv
    have hIv := ints_of_own hOv (fun y hy => by have := hr1 y hy; unfold I64; omega) (by omega)
    have CMk := marks_any _ (varsOf N.pre) w3 hIv (fun x hx => by have := hr1 x hx; omega)
    rw [hset] at CMk
    have hB13 := below_then hB2 hB2.size hB3
    clear CM hOv hIv b0 b1 b2 a0 a1 a2
    go_wp2_with fail
    refine CMk.mono ?_
    rintro e w4 ⟨b6, rfl, hS6, hB4, hb6⟩
    have hB14 := below_then hB13 hB13.size hB4
    obtain ⟨b0, b1, b2⟩ := rows w4 hB14
    clear CMk hB13 hB4 hB3
    go_wp2_with fail
    refine (CV _ hB14).mono ?_
    rintro e w5 ⟨vv, rfl, hOv, hB5⟩
    obtain ⟨Av, cv, rfl⟩ := own_shape hOv
    have hIv := ints_of_own hOv (fun y hy => by have := hr1 y hy; unfold I64; omega) (by omega)
    have CMk := marks_any _ (varsOf N.pre) w5 hIv (fun x hx => by have := hr1 x hx; omega)
    rw [hset] at CMk
    have hB15 := below_then hB14 hB14.size hB5
    have hS65 := hS6.below hB5
    clear hOv hIv b0 b1 b2 hS6
    go_wp2_with fail
    refine CMk.mono ?_
    rintro e w6 ⟨b7, rfl, hS7, hB6, hb7⟩
    have hB16 := below_then hB15 hB15.size hB6
    have hS66 := hS65.below hB6
    have hs15 := hB15.size
    have hlt6 := hS65.lt
    clear CMk CV hB5 hB6 hB14 hS65 hr1 hr2 hne hset hB2
    go_wp2_with fail
    go_loopg [8] N.gates.length (fun gg s8 wr => ∃ (j : Nat) (S : Nat → Bool), j ≤ N.gates.length ∧ N.gates.length - j ≤ gg ∧ s8 = .int .i64 j ∧ Below w1.heap.size w1 wr ∧ SetAt wr b6 4 (preS N) ∧ SetAt wr b7 4 S ∧ Rem (usedG (preS N) N.gates) (usedG S (N.gates.drop j)))
    case atStart => exact ⟨0, _, Nat.zero_le _, by omega, rfl, hB16, hS66, hS7, ⟨rfl⟩⟩
    case round =>
      clear hB16 hS66 hS7 hB15
      obtain ⟨j, S, hj, hg, rfl, hB, hS6, hS7, HA⟩ := hrel
      obtain ⟨b0, b1, b2⟩ := rows wr hB
      by_cases hlt : j < N.gates.length
      · obtain ⟨g, hgx, hgm, hgd⟩ := nth hlt
        obtain ⟨bg, offg, vi, eA, hc0, hc1, hc2, hi, hg64, hkd0, hkd1⟩ := (hgt.keep (keeps_below (below_then hB1 hB1.size hB))).at_ j g hgx
        subst eA
        have hltz : (j : Int) < (N.gates.length : Int) := by omega
        obtain ⟨hsh, hg1, hg2⟩ := hgv.out g hgm
        obtain ⟨m, hmm⟩ : ∃ m : Nat, g.var = m := Int.eq_ofNat_of_zero_le (by omega)
        have hm1 : m < 65537 := by omega
        rw [hmm] at hc0
        have hcm := hS7.cell m hm1
        have hfm := hS7.free m
        have e : usedG (preS N) N.gates = usedG (upd S m true) (N.gates.drop (j + 1)) := by
          rw [HA.out, hgd]
          show usedG (upd S g.var.toNat true) _ = _
          rw [hmm, Int.toNat_natCast]
        have HE := hid e
        have HS := hid (And.intro hS6 hS7)
        clear hgx hgm hgd hc1 hc2 hi hg64 hkd0 hkd1 hsh hg1 hg2 hmm hS6 hS7 e
        go_wp2_with fail
        go_roundg (N.gates.length - (j + 1))
        case measure => omega
        case rel => exact ⟨j + 1, _, by omega, by omega, by go_num, hB.setCell (p := ⟨b7, m, none⟩) (by show w1.heap.size ≤ b7; omega) _, HS.out.1.other (by show b6 ≠ b7; omega) _, HS.out.2.store m true, ⟨HE.out⟩⟩
      · have hltz : ¬ (j : Int) < (N.gates.length : Int) := by omega
        have e : usedG (preS N) N.gates = S := by rw [HA.out, List.drop_eq_nil_of_le (by omega)]; rfl
        rw [e] at hRf
        have CK := known_any b7 4 S lit wr hS7 hRf h64
        cases hk : S (absN lit) with
        | false =>
          rw [hk] at CK
          have e2 : supportP N lit = ([], 6) := by unfold supportP; rw [if_neg (by rw [HM.out]; simp), e, if_pos hk]
          have HE := hid e2
          clear e e2 hk HA
          go_wp2_with (first | (go_at_call 53; refine CK.mono ?_; rintro e w' ⟨rfl, rfl⟩) | fail)
          go_ret2
          exact ⟨below_then hB1 hB1.size hB, _, by rw [HE.out]; rfl, by rw [HE.out]; exact ints_none _⟩
        | true =>
          rw [hk] at CK
          have hlp := (hRf _ hk).1
          have CR := fun W (hW : Below w1.heap.size w1 W) => reachedR_any _ N.gates lit W (hgt.keep (keeps_below (below_then hB1 hB1.size hW))) h64 hlp (fun g hg => ⟨(hgv.out g hg).2.1, (hgv.out g hg).2.2⟩) hgl'.out
          have e2 : supportP N lit = (supL (reachT (upd noS (absN lit) true) N.gates.reverse) (preS N), 0) := by unfold supportP; rw [if_neg (by rw [HM.out]; simp), e, if_neg (by rw [hk]; simp)]
          have HE := hid e2
          clear e e2 hk HA
          go_wp2_with (first | (go_at_call 53; refine CK.mono ?_; rintro e w' ⟨rfl, hw⟩; obtain rfl : wr = w' := hw.symm) | fail)
          refine (CR _ hB).mono ?_
          rintro e w7 ⟨b9, rfl, hS9, hB7, hb9⟩
          have hB17 := below_then hB hB.size hB7
          have hS67 := hS6.below hB7
          have hlt9 := hS9.lt
          obtain ⟨T, hT⟩ : ∃ T, reachT (upd noS (absN lit) true) N.gates.reverse = T := ⟨_, rfl⟩
          rw [hT] at hS9 HE
          clear CR CK hT hS6 hS7 hB b0 b1 b2 hB7
          go_wp2_with fail
          go_loopg [10, 11] 65537 (fun gg s10 s11 wr => ∃ (k : Nat) (out : List Int) (Ao : Option Addr) (co : Nat), 1 ≤ k ∧ k ≤ 65537 ∧ 65537 - k ≤ gg ∧ s11 = .int .i64 (k : Int) ∧ s10 = .slice Ao out.length co ∧ Below w7.heap.size w7 wr ∧ wr.ownsRow w7.heap.size 3 1 (.slice Ao out.length co) out.length (nums out) ∧ out.length ≤ k ∧ Aside (out = supTo T (preS N) k))
          case atStart => exact ⟨1, [], none, 0, by omega, by omega, by omega, rfl, rfl, Below.refl _ _, World.ownsRow_nil _ _ _ _, by simp, (supTo_one hR).symm⟩
          case round =>
            obtain ⟨k, out, Ao, co, hk0, hk, hgk, rfl, rfl, hBk, hO, hlo, hout⟩ := hrel
            have hS9k := hS9.below hBk
            have hS6k := hS67.below hBk
            by_cases hlt : k < 65537
            · have hltz : (k : Int) ≤ 65536 := by omega
              have c9 := hS9k.cell k hlt
              have c6 := hS6k.cell k hlt
              have hst := supTo_succ T (preS N) k
              have hout' : out = supTo T (preS N) k := hout
              rw [← hout'] at hst
              have hbk := hBk.size
              have HST := hid hst
              have hk1 : (k : Int) < 65537 := by omega
              clear hS9k hS6k hst hout hout' hlt
              generalize preS N k = y at c6 HST
              generalize T k = x at c9 HST
              cases x with
              | false =>
                go_wp2_with fail
                go_roundg (65537 - (k + 1))
                case measure => omega
                case rel => exact ⟨k + 1, out, Ao, co, by omega, by omega, by omega, by go_num, rfl, hBk, hO, by omega, by have := HST.out; simp at this; exact this.symm⟩
              | true =>
                cases y with
                | false =>
                  go_wp2_with fail
                  go_roundg (65537 - (k + 1))
                  case measure => omega
                  case rel => exact ⟨k + 1, out, Ao, co, by omega, by omega, by omega, by go_num, rfl, hBk, hO, by omega, by have := HST.out; simp at this; exact this.symm⟩
                | true =>
                  go_wp2_with (at_builtin; refine append_one w7.heap.size rfl _ _ 26 3 (.int .i64 0) 1 8 rfl Try.underlying26 info3 rfl (by decide) (by decide) (.slice Ao out.length co) out.length (nums out) #[.int .i64 (k : Int)] rfl rfl rfl (by intro u hu; simp at hu; subst hu; rfl) hO hbk (by omega) ?_; intro g' cap w8 hO8 hG8 hg8 hbg8 hlt8)
                  rw [nums_snoc] at hO8
                  go_roundg (65537 - (k + 1))
                  case measure => omega
                  case rel => exact ⟨k + 1, out ++ [(k : Int)], some ⟨g', 0, none⟩, cap, by omega, by omega, by omega, by go_num, by simp, hBk.grown hG8 hBk.size (fun r e => (hO.lt r e).1), by simpa using hO8, by simp; omega, by have := HST.out; simp at this; exact this.symm⟩
            · have hltz : ¬ (k : Int) ≤ 65536 := by omega
              have hk65 : k = 65537 := by omega
              have hout' : out = supTo T (preS N) k := hout
              rw [hk65] at hout'
              have hI := ints_of_own2 hO (by rw [hout']; exact supTo_64 _ _ _ (Nat.le_refl _))
              rw [hout'] at hI
              have HI := hid hI
              have HO := hid hout'
              clear hI hout hout' hk65
              go_wp2_with fail
              go_ret2
              refine ⟨below_then hB1 hB1.size (below_then hB17 hB17.size hBk), _, by rw [HE.out]; rfl, ?_⟩
              rw [HE.out]
              have h2 := HI.out
              rw [← HO.out] at h2
              rw [show (supL T (preS N), (0 : Int)).1 = supTo T (preS N) 65537 from rfl, ← HO.out]
              exact h2
end Go.Proofs.Ytnlobmepajakcaa
