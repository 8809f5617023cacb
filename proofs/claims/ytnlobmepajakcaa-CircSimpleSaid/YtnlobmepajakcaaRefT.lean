/- What the reference's Cofactor does; the conditions: what it is given reads as data, with at most 300 gates, 1,500 literals and 5,000 numbers. -/
import Derived.Test.YtnlobmepajakcaaRefK
import Derived.Test.YtnlobmepajakcaaRefV
import Derived.Test.YtnlobmepajakcaaCof
set_option linter.unusedVariables false
set_option linter.unusedSimpArgs false
namespace Go.Proofs.Ytnlobmepajakcaa
open Go.RowKit Go.Shelf

theorem norm_pos1 : ∀ (a : List Int) (last : Int), 0 ≤ last → normFrom last a = true → ∀ l ∈ a, 1 ≤ absN l
  | [], last, h0, h, l, hl => by cases hl
  | x :: a, last, h0, h, l, hl => by
    unfold normFrom at h
    split at h
    · cases h
    · rename_i hx
      rcases List.mem_cons.1 hl with rfl | hl
      · unfold absN; omega
      · exact norm_pos1 a (absI x) (by omega) h l hl
set_option maxRecDepth 100000 in
set_option maxHeartbeats 4000000 in
theorem CofactorR_any (v va : Value) (N : PNet) (a : List Int) (w : World) (h : NetAt w v N) (ha : IntsAt w va a) (hl : litSum N.gates ≤ 1500) (hgl : N.gates.length ≤ 300) (hal : a.length ≤ 5000) :
    Calls Try.prog 16 #[v, va] w (CofPost w (cofactorP N a)) := by
  have hN := h
  obtain ⟨vp, vg, rfl, ho, hp, hgt⟩ := h
  obtain ⟨Ap, cp, rfl, hlp, hcp⟩ := hp.form
  obtain ⟨Ag, cg, rfl, hlg, hcg⟩ := hgt.form
  obtain ⟨Aa, ca, rfl, hla, hca⟩ := ha.form
  obtain ⟨w1, hw1, hc1, -, hz1, hB1, hrow1⟩ := new_block w #[.slice Ap N.pre.length cp, .slice Ag N.gates.length cg, .int .i64 N.out] 25
  obtain ⟨w2, hw2, hc2, hf2, hz2, hB2, hrow2⟩ := new_block w1 #[.slice none 0 0, .slice none 0 0, .int .i64 0] 25
  have hB02 := below_then hB1 hB1.size hB2
  have n0 : w2.cell? ⟨w.heap.size, 0, none⟩ = some (.slice Ap N.pre.length cp) := keeps_below hB2 _ _ (hc1 0 _ rfl)
  have n1 : w2.cell? ⟨w.heap.size, 1, none⟩ = some (.slice Ag N.gates.length cg) := keeps_below hB2 _ _ (hc1 1 _ rfl)
  have n2 : w2.cell? ⟨w.heap.size, 2, none⟩ = some (.int .i64 N.out) := keeps_below hB2 _ _ (hc1 2 _ rfl)
  rw [hz1] at hz2 hrow2
  have CMay := fun W (hW : Below w.heap.size w W) => MayR_any (.agg #[.slice Ap N.pre.length cp, .slice Ag N.gates.length cg, .int .i64 N.out]) N W (hN.keep (keeps_below hW)) hl hgl
  have CNor := fun W (hW : Below w.heap.size w W) => NormalR_any (.slice Aa a.length ca) a W (ha.keep (keeps_below hW))
  clear hc1 hc2 hf2
  go_enter Try.func16, Try.ntmps16
  cases hm : mayP N with
  | false =>
    rw [hm] at CMay
    have e : cofactorP N a = (noNet, 2) := by unfold cofactorP; rw [hm]; rfl
    rw [e]
    clear e hm
    go_wp2_with (go_at_call 18; refine (CMay _ hB02).mono ?_; rintro e w3 ⟨rfl, hB3⟩; have r3 := row_below hrow2 hB3; have hB03 := below_then hB02 hB02.size hB3; obtain ⟨f0, c0, f1, c1, f2, c2, r4, g4⟩ := put25 r3 (.slice none 0 0) (.slice none 0 0) (.int .i64 0))
    exact bodyPost_ret (results_row_tmp (p := 4) (u := 5) (ty := 25) rfl _ _ (w.heap.size + 1) 25 _ (0, 0) _ rfl r4 Try.underlying25 rfl (by kernel_rfl)) rfl ⟨hB03.grown g4 hB03.size (fun r e => by injection e with e; omega), _, rfl, net_noF _ _⟩
  | true =>
    rw [hm] at CMay
    have HM := hid hm
    clear hm
    cases hn : normFrom 0 a with
    | false =>
      rw [hn] at CNor
      have e : cofactorP N a = (noNet, 2) := by unfold cofactorP; rw [HM.out, hn]; rfl
      rw [e]
      clear e hn
      go_wp2_with (first | (go_at_call 18; refine (CMay _ hB02).mono ?_; rintro e w3 ⟨rfl, hB3⟩; have hB03 := below_then hB02 hB02.size hB3) | (go_at_call 47; refine (CNor _ hB03).mono ?_; rintro e w4 ⟨rfl, hB4⟩; have hB04 := below_then hB03 hB03.size hB4; have r3 := row_below (row_below hrow2 hB3) hB4; obtain ⟨f0, c0, f1, c1, f2, c2, r4, g4⟩ := put25 r3 (.slice none 0 0) (.slice none 0 0) (.int .i64 0)))
      exact bodyPost_ret (results_row_tmp (p := 4) (u := 5) (ty := 25) rfl _ _ (w.heap.size + 1) 25 _ (0, 0) _ rfl r4 Try.underlying25 rfl (by kernel_rfl)) rfl ⟨hB04.grown g4 hB04.size (fun r e => by injection e with e; omega), _, rfl, net_noF _ _⟩
    | true =>
      rw [hn] at CNor
      have HN := hid hn
      have hpos := norm_pos1 a 0 (by omega) hn
      clear hn
      have hps : (prefFrom none 0 noS N.pre).isSome = true := by rw [(mayP_pre HM.out).1]; rfl
      have hrng := pre_rng hps
      have hne : ∀ x ∈ N.pre, x.vars ≠ [] := alt_ne (preS_of hps).1
      have hset : ∀ i : Nat, decide ((i : Int) ∈ varsOf N.pre) = preS N i := fun i => (preS_iff hps i).symm
      have HRNG := hid hrng
      have HSET := hid hset
      have HPOS := hid hpos
      clear hps hrng hset hpos
      go_wp2_with fail
      refine (CMay _ hB02).mono ?_
      rintro e w3 ⟨rfl, hB3⟩
      have hB03 := below_then hB02 hB02.size hB3
      go_wp2_with fail
      refine (CNor _ hB03).mono ?_
      rintro e w4 ⟨rfl, hB4⟩
      have hB04 := below_then hB03 hB03.size hB4
      have q0 := keeps_below hB4 _ _ (keeps_below hB3 _ _ n0)
      have CV := Vars_any _ N.pre w4 (hp.keep (keeps_below hB04)) hne (by have := HRNG.out.2; omega)
      go_wp2_with fail
      refine CV.mono ?_
      rintro e w5 ⟨vv, rfl, hO5, hB5⟩
      obtain ⟨Av, cv, rfl⟩ := own_shape hO5
      have hB05 := below_then hB04 hB04.size hB5
      have r5 := row_below (row_below (row_below hrow2 hB3) hB4) hB5
      have q50 := keeps_below hB5 _ _ q0
      have q51 := keeps_below hB5 _ _ (keeps_below hB4 _ _ (keeps_below hB3 _ _ n1))
      have q52 := keeps_below hB5 _ _ (keeps_below hB4 _ _ (keeps_below hB3 _ _ n2))
      have hV5 : IntsAt w5 (.slice Av (varsOf N.pre).length cv) (varsOf N.pre) := ints_of_own hO5 (fun y hy => by have := HRNG.out.1 y hy; unfold I64; omega) (by have := HRNG.out.2; omega)
      clear CV CMay CNor hO5 q0 n0 n1 n2 hne
      go_wp2_with fail
      go_loopg [7] a.length (fun gg s7 wr => ∃ k : Nat, k ≤ a.length ∧ a.length - k ≤ gg ∧ s7 = .int .i64 k ∧ wr = w5 ∧ Rem (a.any fun l => !preS N (absN l)) ((a.drop k).any fun l => !preS N (absN l)))
      case atStart => exact ⟨0, Nat.zero_le _, by omega, rfl, rfl, ⟨rfl⟩⟩
      case round =>
        obtain ⟨k, hk, hgk, rfl, rfl, HA⟩ := hrel
        obtain ⟨W5, rfl⟩ : ∃ W5, W5 = wr := ⟨_, rfl⟩
        by_cases hlt : k < a.length
        · obtain ⟨y, hy, hym, hd⟩ := nth hlt
          obtain ⟨ba, offa, rfl, hcy, hy64⟩ := (ha.keep (keeps_below hB05)).at_ k y hy
          have hltz : (k : Int) < (a.length : Int) := by omega
          have hyp := HPOS.out y hym
          have CA := absR_any y W5 hy64
          rw [absR_eq hyp] at CA
          have CI := In_any _ (varsOf N.pre) (absN y : Int) W5 hV5
          rw [HSET.out] at CI
          have hst : (a.any fun l => !preS N (absN l)) = (!preS N (absN y) || ((a.drop (k + 1)).any fun l => !preS N (absN l))) := by rw [HA.out, hd]; rfl
          have HST := hid hst
          clear hst hd hy hym hyp hy64
          generalize (absN y : Int) = ya at CA CI
          cases hp1 : preS N (absN y) with
          | false =>
            rw [hp1] at CI
            have e : cofactorP N a = (noNet, 6) := by
              have h1 := HST.out
              rw [hp1] at h1
              unfold cofactorP; rw [HM.out, HN.out, h1]; rfl
            have HE := hid e
            obtain ⟨f0, c0, f1, c1, f2, c2, r4, g4⟩ := put25 r5 (.slice none 0 0) (.slice none 0 0) (.int .i64 0)
            clear e hp1
            go_wp2_with (first | (go_at_call 30; refine CA.mono ?_; rintro e w' ⟨rfl, hw⟩; obtain rfl : W5 = w' := hw.symm) | (go_at_call 29; refine CI.mono ?_; rintro e w' ⟨rfl, hw⟩; obtain rfl : W5 = w' := hw.symm))
            exact bodyPost_ret (results_row_tmp (p := 4) (u := 5) (ty := 25) rfl _ _ (w.heap.size + 1) 25 _ (0, 0) _ rfl r4 Try.underlying25 rfl (by kernel_rfl)) rfl (by rw [HE.out]; exact ⟨hB05.grown g4 hB05.size (fun r e => by injection e with e; omega), _, rfl, net_noF _ _⟩)
          | true =>
            rw [hp1] at CI
            have h1 := HST.out
            rw [hp1] at h1
            have H1 := hid h1
            clear h1 hp1
            go_wp2_with (first | (go_at_call 30; refine CA.mono ?_; rintro e w' ⟨rfl, hw⟩; obtain rfl : W5 = w' := hw.symm) | (go_at_call 29; refine CI.mono ?_; rintro e w' ⟨rfl, hw⟩; obtain rfl : W5 = w' := hw.symm))
            go_roundg (a.length - (k + 1))
            case measure => omega
            case rel => exact ⟨k + 1, by omega, by omega, by go_num, rfl, ⟨by rw [H1.out]; rfl⟩⟩
        · have hltz : ¬ (k : Int) < (a.length : Int) := by omega
          have hany : (a.any fun l => !preS N (absN l)) = false := by rw [HA.out, List.drop_eq_nil_of_le (by omega)]; rfl
          have e : cofactorP N a = (simpleP 65537 N a, 0) := by unfold cofactorP; rw [HM.out, HN.out, hany]; rfl
          have HE := hid e
          have CS := simpleR_any _ _ N a W5 (hN.keep (keeps_below hB05)) (ha.keep (keeps_below hB05)) HM.out hl hgl HPOS.out
          clear e hany
          go_wp2_with fail
          refine CS.mono ?_
          rintro e w8 ⟨hB8, v8, rfl, hF8⟩
          obtain ⟨up, ug, rfl, hu, hu1, hu2⟩ := hF8.at
          obtain ⟨A1, c1, rfl, -, -⟩ := hu1.form
          obtain ⟨A2, c2, rfl, -, -⟩ := hu2.form
          have hB08 := below_then hB05 hB05.size hB8
          obtain ⟨S, hS⟩ : ∃ S, simpleP 65537 N a = S := ⟨_, rfl⟩
          rw [hS] at hF8 hu hu1 hu2 ⊢
          have HES : Hid (cofactorP N a = (S, 0)) := hid (by rw [HE.out, hS])
          clear hS
          obtain ⟨f0, c0, f1, c1', f2, c2', r4, g4⟩ := put25 (row_below r5 hB8) (.slice A1 S.pre.length c1) (.slice A2 S.gates.length c2) (.int .i64 S.out)
          have h4s := g4.size
          have h8s := hB8.size
          have h5s := hB05.size
          have h5lt := row_lt r5
          clear hu1 hu2 CS
          go_wp2_with fail
          exact bodyPost_ret (results_row_tmp (p := 4) (u := 5) (ty := 25) rfl _ _ (w.heap.size + 1) 25 _ (0, 0) _ rfl r4 Try.underlying25 rfl (by kernel_rfl)) rfl (by rw [HES.out]; exact ⟨hB08.grown g4 hB08.size (fun r e => by injection e with e; omega), _, rfl,
            fun wF hsF hkF => hF8 wF (by omega) (fun k h1 h2 => (hkF k (by omega) (by omega)).trans (g4.block k h2 (by intro e; injection e with e; omega)))⟩)
end Go.Proofs.Ytnlobmepajakcaa
