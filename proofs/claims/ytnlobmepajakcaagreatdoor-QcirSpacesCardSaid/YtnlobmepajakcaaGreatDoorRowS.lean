/- QcirSpaces returns true for all strings and all lists of bytes, and they read afterwards as before; no condition but that the package variables hold what the program's text lays. -/
import Derived.Test.YtnlobmepajakcaaGreatDoorDoor
import Derived.Test.YtnlobmepajakcaaGreatDoorCards
import Derived.Test.YtnlobmepajakcaaGreatDoorTie
import Derived.Test.YtnlobmepajakcaaGreatDoorLawS
import Derived.SevenTiedAt
set_option linter.unusedVariables false
namespace Go.Proofs.YtnlobmepajakcaaGreatDoor
open Go.ChangeShapes Go.WideShapes Go.ChangeAt Go.RowKit Go.Joins

theorem trodAll_twoQ {H : Type} {enc : TypeId × Value → H} {P : Program} {w : World} {base : Nat} {spare : Nat → Bool} {held : Bool} {t t1 : TypeId} {args : Array Value} {ds : List (DataW H)} {ps : List MemPlace}
    (h : DataW.TrodAll enc P w base spare held [t, t1] args.toList ds ps) :
    ∃ v v1 d d1 p p1, args = #[v, v1] ∧ ds = [d, d1] ∧ ps = p ++ p1 ∧ DataW.Trod enc P w base spare held t v d p ∧ DataW.Trod enc P w base spare held t1 v1 d1 p1 := by
  obtain ⟨v, vs, d, ds1, p, q, hargs, rfl, rfl, hd, hrest⟩ := trodAll_cons h
  obtain ⟨v1, vs1, d1, ds2, p1, q1, rfl, rfl, rfl, hd1, hrest1⟩ := trodAll_cons hrest
  obtain ⟨rfl, rfl, rfl⟩ := trodAll_nil hrest1
  exact ⟨v, v1, d, d1, p, p1, by cases args; simp_all, rfl, by simp, hd, hd1⟩
theorem trodAll_mk2Q {H : Type} {enc : TypeId × Value → H} {P : Program} {w : World} {base : Nat} {spare : Nat → Bool} {held : Bool} {t t' : TypeId} {v v' : Value} {d d' : DataW H} {p p' : List MemPlace}
    (h : DataW.Trod enc P w base spare held t v d p) (h' : DataW.Trod enc P w base spare held t' v' d' p') : DataW.TrodAll enc P w base spare held [t, t'] [v, v'] [d, d'] (p ++ p') :=
  ⟨p, p', h, trodAll_mk1 h', rfl⟩
theorem cells5 : Tryz.prog.cellsOf 5 = 1 := by kernel_rfl
set_option maxRecDepth 100000 in
/-- A list of bytes that came in. -/
theorem open_bytes {H : Type} {enc : TypeId × Value → H} {W : World} {v : Value} {d : DataW H} {p : List MemPlace} {base : Nat} (hv : Value.okWide Tryz.prog W .any base 22 v) (h : DataW.Trod enc Tryz.prog W 0 (fun _ => true) true 22 v d p) (hz : LightD 22 d) :
    ∃ xs, BytesAt W v xs ∧ ∀ x ∈ p, x.block < W.heap.size := by
  have hlt : ∀ x ∈ p, x.block < W.heap.size := by obtain ⟨m, hm⟩ := h; exact DataW.trod_lt m _ _ _ hm
  obtain ⟨a0, l0, c0, rfl⟩ := okWide_slice Tryz.underlying22 hv
  obtain ⟨fuel, hf⟩ := h
  obtain ⟨u, xs, e, hx, -, -⟩ := open_sl (α := UInt8) Tryz.underlying22 cells5 (by omega) U8C (fun _ => True) (fun n cs y hy _ b off hcell hlen => by
    obtain ⟨m, rfl, -, hwf⟩ := DataW.trod_int Tryz.underlying5 hy
    have hm : 0 ≤ m ∧ m ≤ 255 := by
      simp [Lit.wf, IntKind.min, IntKind.max, IntKind.signed, IntKind.bits] at hwf
      omega
    refine ⟨UInt8.ofNat m.toNat, ?_, trivial⟩
    unfold U8C
    have e : (((UInt8.ofNat m.toNat).toNat : Nat) : Int) = m := by rw [UInt8.toNat_ofNat']; omega
    rw [e]
    exact hcell 0 (by omega)) hf hz
  have e' : u = .slice a0 l0 c0 := by
    have : [Value.slice a0 l0 c0] = [u] := e
    injection this with this _
    exact this.symm
  subst e'
  exact ⟨xs, hx, hlt⟩

set_option maxRecDepth 100000 in
theorem qcirSpaces_lifted (os : Os) (started : os.Started) (H : Type) (enc : TypeId × Value → H) :
    ReturnsInHanded {} Tryz.checked os 3 .any (fun w args => (Rows.qcirSpacesSpec.pre enc Tryz.prog Tryz.f3 Rows.qcirSpacesRow.domain false w args ∧ laidMetH Tryz.prog laidQ w) ∧ sizedMet enc Tryz.prog Tryz.f3 (OpenSpec.ofChange Rows.qcirSpacesSpec) false w args)
      (Rows.qcirSpacesSpec.post enc Tryz.prog Tryz.f3 false true false false) := by
  refine returns_laid started (by kernel_rfl) Tryz.func3
    (ChangeSpec.witness_shaped (enc := enc) (C := Tryz.checked) (os := os) (X := fun w _ => laidMetH Tryz.prog laidQ w) false (World.laidAll Tryz.prog os laidQ) #[.string ⟨#[]⟩, .slice none 0 0] 8 (World.laidAll_os _ _ _)
      (World.shaped_of_ZipB (by kernel_rfl) (by kernel_rfl)) (by kernel_rfl) (by kernel_rfl) (by kernel_rfl)
      (by rw [MakeChecks.laidMetH_plain _ _ _ (by kernel_rfl)]; exact laidMet_laidAll _ (by kernel_rfl) (by kernel_rfl))) ?_
  intro W base args ds gs before hval0 hW hsz0 hE
  have hval : ∀ (j : Nat) t v, Tryz.f3.params[j]? = some t → args[j]? = some v → Value.okWide Tryz.prog W .any base t v := hval0
  have hsz : (DataW.weightsEach Tryz.prog (Tryz.f3.params.toList ++ Rows.qcirSpacesSpec.plain.varTypes Tryz.prog) (ds ++ gs)).all (· ≤ reachBytes) = true := hsz0
  have hW' := hW
  obtain ⟨p, q, hA0, hV, rfl, hfz, hnd⟩ := hW
  have hA : DataW.TrodAll enc Tryz.prog W 0 (fun _ => true) true Tryz.f3.params.toList args.toList ds p := hA0
  rw [Tryz.params3] at hA hval hsz
  obtain ⟨v0, v1, d0, d1, p0, p1, rfl, rfl, rfl, h0, h1⟩ := trodAll_twoQ hA
  obtain ⟨rfl, rfl⟩ := trodVars_none hV
  have k0 := h0
  have k1 := h1
  have hz := light_of hsz (j := 0) rfl rfl
  obtain ⟨b, rfl, rfl, rfl, hb⟩ := Go.ChangeMaps.open_string Tryz.underlying9 (hval 0 9 v0 rfl rfl) h0
  have hlen := hz b.data.toList.length (by simp [DataW.weights])
  obtain ⟨xs, hxs, lt1⟩ := open_bytes (hval 1 22 v1 rfl rfl) h1 (light_of hsz (j := 1) rfl rfl)
  obtain ⟨s, rfl⟩ : ∃ s : Bs, b = ⟨s.toArray⟩ := ⟨b.data.toList, by rw [Array.toArray_toList]⟩
  have hl : s.length ≤ 4611686018427387904 := by
    unfold reachBytes at hlen
    simp at hlen
    omega
  clear hA0 hval0 hsz0 hsz hz hlen
  refine (QcirSpaces_any s v1 xs W hl hxs hE).mono fun e W' ⟨he, bel⟩ => ?_
  subst he
  have t0 := Below.trod Tryz.laidOut (by kernel_rfl) (of_decide_eq_true (by kernel_rfl)) k0 bel (fun x hx => by cases hx)
  have t1 := Below.trod Tryz.laidOut (by kernel_rfl) (of_decide_eq_true (by kernel_rfl)) k1 bel lt1
  exact ⟨_, rfl, _, _, _, [], _, [], hW', trodAll_mk1 (shut_bool Tryz.underlying4 _), trodAll_mk2Q t0 t1, rfl, bel.frame _, fun h => by cases h⟩

theorem qcirSpaces_said : Rows.QcirSpacesSaid :=
  OpenClaim.holds_of_wide 3 Tryz.f3 rfl rfl rfl rfl rfl rfl rfl ⟨rfl, rfl, rfl, rfl, rfl⟩ rfl rfl rfl rfl rfl (by kernel_rfl) Tryz.func3 (by kernel_rfl)
    (of_decide_eq_true (by kernel_rfl)) (by unfold Func.isWrapper; first | (rw [if_pos (by decide +kernel)]; kernel_rfl) | (rw [if_neg (by decide +kernel)]; exact ⟨rfl, rfl⟩))
    (fun os started H enc _ => qcirSpaces_lifted os started H enc)
theorem qcirSpaces_holds : Rows.QcirSpacesCardSaid :=
  Claim7.holds_tied_plain_at .later [] [.data, .data, .data, .data, .sentinel, .sentinel, .widerDeep, .pinned] true (true, "5d4d874353d535549195872a374e0a1a476df9e355fd7eca9e312ef99974863b") true qcirSpaces_said (fun _ h => by cases h) (by kernel_rfl) (fun _ h => by cases h) qcirSpaces_row_tie rfl ⟨rfl, rfl⟩ (by kernel_rfl) rfl
    (fun f fn hf hfn => by
      obtain rfl : f = 3 := Option.some.inj ((show Tryz.prog.funcNamed "skolem/skolemlaw08.QcirSpaces" = some 3 by kernel_rfl).symm.trans hf) |>.symm
      obtain rfl : fn = Tryz.f3 := (Option.some.inj (Tryz.func3.symm.trans hfn)).symm
      exact ⟨by kernel_rfl, fun j t ht => by
        rw [Tryz.params3] at ht
        have hm : t ∈ [9, 22] := by simpa using Array.mem_of_getElem? ht
        have hall : ([9, 22].all fun u => !Tryz.prog.wantsStandIn u) = true := by kernel_rfl
        exact (show Tryz.prog.wantsStandIn t = false by simpa using List.all_eq_true.1 hall t hm)⟩)
    (by kernel_rfl)
#print axioms qcirSpaces_holds
end Go.Proofs.YtnlobmepajakcaaGreatDoor
