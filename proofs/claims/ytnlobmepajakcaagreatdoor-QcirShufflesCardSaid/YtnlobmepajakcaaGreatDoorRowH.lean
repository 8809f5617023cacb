/- QcirShuffles returns true for all nets, all lists of swaps and all assignments, and they read afterwards as before; no condition but that the package variables hold what the program's text lays. -/
import Derived.Test.YtnlobmepajakcaaGreatDoorDoor
import Derived.Test.YtnlobmepajakcaaGreatDoorCards
import Derived.Test.YtnlobmepajakcaaGreatDoorTie
import Derived.Test.YtnlobmepajakcaaGreatDoorLawHb
import Derived.SevenTiedAt
set_option linter.unusedVariables false
namespace Go.Proofs.YtnlobmepajakcaaGreatDoor
open Go.ChangeShapes Go.WideShapes Go.ChangeAt Go.RowKit Go.Joins

theorem QcirShuffles_any (v vs va : Value) (N : PNet) (sw : List Nat) (a : List Int) (w : World) (h : NetAt w v N) (hb : ∀ g ∈ N.gates, g.ins.length ≤ 17592186044416) (hsw : U16sAt w vs sw) (ha : IntsAt w va a) (hE : Env w) :
    Calls Tryz.prog 4 #[v, vs, va] w fun e w' => e = .returned (.bool true) ∧ Below w.heap.size w w' := by
  rcases hg : greatB N with _ | _
  · by_cases hl : 300 < sw.length
    · exact QcirShuffles_many v vs va N sw a w h hb hsw ha hE hg hl
    · by_cases hal : 200 < a.length
      · exact QcirShuffles_long v vs va N sw a w h hb hsw ha hE hg hl hal
      · rcases hM : mayP N with _ | _
        · exact QcirShuffles_bad v vs va N sw a w h hb hsw ha hE hg hl hal hM
        · rcases hn : normFrom 0 a with _ | _
          · exact QcirShuffles_odd v vs va N sw a w h hb hsw ha hE hg hl hal hM hn
          · exact QcirShuffles_good v vs va N sw a w h hb hsw ha hE hg hl hal hM hn
  · exact QcirShuffles_great v vs va N sw a w h hb hsw ha hE hg
theorem trodAll_threeQ {H : Type} {enc : TypeId × Value → H} {P : Program} {w : World} {base : Nat} {spare : Nat → Bool} {held : Bool} {t t1 t2 : TypeId} {args : Array Value} {ds : List (DataW H)} {ps : List MemPlace}
    (h : DataW.TrodAll enc P w base spare held [t, t1, t2] args.toList ds ps) :
    ∃ v v1 v2 d d1 d2 p p1 p2, args = #[v, v1, v2] ∧ ds = [d, d1, d2] ∧ ps = p ++ (p1 ++ p2) ∧ DataW.Trod enc P w base spare held t v d p ∧ DataW.Trod enc P w base spare held t1 v1 d1 p1 ∧
      DataW.Trod enc P w base spare held t2 v2 d2 p2 := by
  obtain ⟨v, vs, d, ds1, p, q, hargs, rfl, rfl, hd, hrest⟩ := trodAll_cons h
  obtain ⟨v1, vs1, d1, ds2, p1, q1, rfl, rfl, rfl, hd1, hrest1⟩ := trodAll_cons hrest
  obtain ⟨v2, vs2, d2, ds3, p2, q2, rfl, rfl, rfl, hd2, hrest2⟩ := trodAll_cons hrest1
  obtain ⟨rfl, rfl, rfl⟩ := trodAll_nil hrest2
  exact ⟨v, v1, v2, d, d1, d2, p, p1, p2, by cases args; simp_all, rfl, by simp, hd, hd1, hd2⟩
theorem trodAll_mk2Q {H : Type} {enc : TypeId × Value → H} {P : Program} {w : World} {base : Nat} {spare : Nat → Bool} {held : Bool} {t t' : TypeId} {v v' : Value} {d d' : DataW H} {p p' : List MemPlace}
    (h : DataW.Trod enc P w base spare held t v d p) (h' : DataW.Trod enc P w base spare held t' v' d' p') : DataW.TrodAll enc P w base spare held [t, t'] [v, v'] [d, d'] (p ++ p') :=
  ⟨p, p', h, trodAll_mk1 h', rfl⟩
theorem cells54 : Tryz.prog.cellsOf 54 = 1 := by kernel_rfl
set_option maxRecDepth 100000 in
/-- A list of 16-bit numbers that came in. -/
theorem open_u16 {H : Type} {enc : TypeId × Value → H} {W : World} {v : Value} {d : DataW H} {p : List MemPlace} {base : Nat} (hv : Value.okWide Tryz.prog W .any base 47 v) (h : DataW.Trod enc Tryz.prog W 0 (fun _ => true) true 47 v d p) (hz : LightD 47 d) :
    ∃ xs, U16sAt W v xs ∧ ∀ x ∈ p, x.block < W.heap.size := by
  have hlt : ∀ x ∈ p, x.block < W.heap.size := by obtain ⟨m, hm⟩ := h; exact DataW.trod_lt m _ _ _ hm
  obtain ⟨a0, l0, c0, rfl⟩ := okWide_slice Tryz.underlying47 hv
  obtain ⟨fuel, hf⟩ := h
  obtain ⟨u, xs, e, hx, -, -⟩ := open_sl (α := Nat) Tryz.underlying47 cells54 (by omega) U16C (fun _ => True) (fun n cs y hy _ b off hcell hlen => by
    obtain ⟨m, rfl, -, hwf⟩ := DataW.trod_int Tryz.underlying54 hy
    have hm : 0 ≤ m ∧ m ≤ 65535 := by
      simp [Lit.wf, IntKind.min, IntKind.max, IntKind.signed, IntKind.bits] at hwf
      omega
    exact ⟨m.toNat, ⟨by rw [Int.toNat_of_nonneg hm.1]; exact hcell 0 (by omega), by omega⟩, trivial⟩) hf hz
  have e' : u = .slice a0 l0 c0 := by
    have : [Value.slice a0 l0 c0] = [u] := e
    injection this with this _
    exact this.symm
  subst e'
  exact ⟨xs, hx, hlt⟩

set_option maxRecDepth 100000 in
theorem qcirShuffles_lifted (os : Os) (started : os.Started) (H : Type) (enc : TypeId × Value → H) :
    ReturnsInHanded {} Tryz.checked os 4 .any (fun w args => (Rows.qcirShufflesSpec.pre enc Tryz.prog Tryz.f4 Rows.qcirShufflesRow.domain false w args ∧ laidMetH Tryz.prog laidQ w) ∧ sizedMet enc Tryz.prog Tryz.f4 (OpenSpec.ofChange Rows.qcirShufflesSpec) false w args)
      (Rows.qcirShufflesSpec.post enc Tryz.prog Tryz.f4 false true false false) := by
  refine returns_laid started (by kernel_rfl) Tryz.func4
    (ChangeSpec.witness_shaped (enc := enc) (C := Tryz.checked) (os := os) (X := fun w _ => laidMetH Tryz.prog laidQ w) false (World.laidAll Tryz.prog os laidQ) #[.agg #[.slice none 0 0, .slice none 0 0, .int .i64 0], .slice none 0 0, .slice none 0 0] 8 (World.laidAll_os _ _ _)
      (World.shaped_of_ZipB (by kernel_rfl) (by kernel_rfl)) (by kernel_rfl) (by kernel_rfl) (by kernel_rfl)
      (by rw [MakeChecks.laidMetH_plain _ _ _ (by kernel_rfl)]; exact laidMet_laidAll _ (by kernel_rfl) (by kernel_rfl))) ?_
  intro W base args ds gs before hval0 hW hsz0 hE
  have hval : ∀ (j : Nat) t v, Tryz.f4.params[j]? = some t → args[j]? = some v → Value.okWide Tryz.prog W .any base t v := hval0
  have hsz : (DataW.weightsEach Tryz.prog (Tryz.f4.params.toList ++ Rows.qcirShufflesSpec.plain.varTypes Tryz.prog) (ds ++ gs)).all (· ≤ reachBytes) = true := hsz0
  have hW' := hW
  obtain ⟨p, q, hA0, hV, rfl, hfz, hnd⟩ := hW
  have hA : DataW.TrodAll enc Tryz.prog W 0 (fun _ => true) true Tryz.f4.params.toList args.toList ds p := hA0
  rw [Tryz.params4] at hA hval hsz
  obtain ⟨v0, v1, v2, d0, d1, d2, p0, p1, p2, rfl, rfl, rfl, h0, h1, h2⟩ := trodAll_threeQ hA
  obtain ⟨rfl, rfl⟩ := trodVars_none hV
  have k0 := h0
  have k1 := h1
  have k2 := h2
  obtain ⟨N, hN, hs, lt0⟩ := open_net (hval 0 40 v0 rfl rfl) h0 (light_of hsz (j := 0) rfl rfl)
  obtain ⟨sw, hsw, lt1⟩ := open_u16 (hval 1 47 v1 rfl rfl) h1 (light_of hsz (j := 1) rfl rfl)
  obtain ⟨a, ha, lt2⟩ := open_list (hval 2 48 v2 rfl rfl) h2 (light_of hsz (j := 2) rfl rfl)
  clear hA0 hval0 hsz0 hsz
  refine (QcirShuffles_any v0 v1 v2 N sw a W hN hs hsw ha hE).mono fun e W' ⟨he, bel⟩ => ?_
  subst he
  have t0 := Below.trod Tryz.laidOut (by kernel_rfl) (of_decide_eq_true (by kernel_rfl)) k0 bel lt0
  have t1 := Below.trod Tryz.laidOut (by kernel_rfl) (of_decide_eq_true (by kernel_rfl)) k1 bel lt1
  have t2 := Below.trod Tryz.laidOut (by kernel_rfl) (of_decide_eq_true (by kernel_rfl)) k2 bel lt2
  exact ⟨_, rfl, _, _, _, [], _, [], hW', trodAll_mk1 (shut_bool Tryz.underlying4 _), ⟨p0, _, t0, trodAll_mk2Q t1 t2, rfl⟩, rfl, bel.frame _, fun h => by cases h⟩

theorem qcirShuffles_said : Rows.QcirShufflesSaid :=
  OpenClaim.holds_of_wide 4 Tryz.f4 rfl rfl rfl rfl rfl rfl rfl ⟨rfl, rfl, rfl, rfl, rfl⟩ rfl rfl rfl rfl rfl (by kernel_rfl) Tryz.func4 (by kernel_rfl)
    (of_decide_eq_true (by kernel_rfl)) (by unfold Func.isWrapper; first | (rw [if_pos (by decide +kernel)]; kernel_rfl) | (rw [if_neg (by decide +kernel)]; exact ⟨rfl, rfl⟩))
    (fun os started H enc _ => qcirShuffles_lifted os started H enc)
theorem qcirShuffles_holds : Rows.QcirShufflesCardSaid :=
  Claim7.holds_tied_plain_at .later [] [.data, .data, .data, .data, .sentinel, .sentinel, .widerDeep, .pinned] true (true, "5d4d874353d535549195872a374e0a1a476df9e355fd7eca9e312ef99974863b") true qcirShuffles_said (fun _ h => by cases h) (by kernel_rfl) (fun _ h => by cases h) qcirShuffles_row_tie rfl ⟨rfl, rfl⟩ (by kernel_rfl) rfl
    (fun f fn hf hfn => by
      obtain rfl : f = 4 := Option.some.inj ((show Tryz.prog.funcNamed "skolem/skolemlaw08.QcirShuffles" = some 4 by kernel_rfl).symm.trans hf) |>.symm
      obtain rfl : fn = Tryz.f4 := (Option.some.inj (Tryz.func4.symm.trans hfn)).symm
      exact ⟨by kernel_rfl, fun j t ht => by
        rw [Tryz.params4] at ht
        have hm : t ∈ [40, 47, 48] := by simpa using Array.mem_of_getElem? ht
        have hall : ([40, 47, 48].all fun u => !Tryz.prog.wantsStandIn u) = true := by kernel_rfl
        exact (show Tryz.prog.wantsStandIn t = false by simpa using List.all_eq_true.1 hall t hm)⟩)
    (by kernel_rfl)
#print axioms qcirShuffles_holds
end Go.Proofs.YtnlobmepajakcaaGreatDoor
