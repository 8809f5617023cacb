/- CircSimple returns true for every net and every list of whole numbers, and both read afterwards as before; no condition. -/
import Derived.Test.YtnlobmepajakcaaRows
import Derived.Test.YtnlobmepajakcaaLawS
import Derived.Test.YtnlobmepajakcaaRefT
import Derived.Test.YtnlobmepajakcaaRefY
import Derived.ProofKit
import Derived.ChangeOld
set_option linter.unusedVariables false
namespace Go.Proofs.Ytnlobmepajakcaa
open Go.ChangeShapes Go.WideShapes Go.ChangeAt Go.RowKit Go.Joins

theorem SimpleR_any (v : Value) (N : PNet) (w : World) (h : NetAt w v N) (hls : litSum N.gates ≤ 1500) (hgl : N.gates.length ≤ 300) : Calls Try.prog 14 #[v] w (CofPost w (cofactorP N [])) :=
  SimpleR_of v N w h hls hgl (fun hM W hW => simpleR_any v _ N [] W hW (ints_none W) hM hls hgl (fun x hx => by cases hx)) (fun hM => by unfold cofactorP; rw [hM]; rfl)
theorem CircSimple_any (v va : Value) (N : PNet) (a : List Int) (w : World) (h : NetAt w v N) (ha : IntsAt w va a) (hs : ∀ g ∈ N.gates, ShortG g) :
    Calls Try.prog 3 #[v, va] w fun e w' => e = .returned (.bool true) ∧ Below w.heap.size w w' :=
  CircSimple_of (fun v N w h hls hgl => SimpleR_any v N w h hls hgl) (fun v va N a w h ha hls hgl hal => CofactorR_any v va N a w h ha hls hgl hal) v va N a w h ha hs
set_option maxRecDepth 100000 in
theorem circSimple_lifted (os : Os) (started : os.Started) (H : Type) (enc : TypeId × Value → H) :
    ReturnsInHanded {} Try.checked os 3 .any (Rows.circSimpleSpec.pre6 enc Try.prog Try.f3 Rows.circSimpleRow.domain false) (Rows.circSimpleSpec.post enc Try.prog Try.f3 false true false false) := by
  refine returnsInHanded_of_change_sized (C := Try.checked) Try.own started (by kernel_rfl) Try.func3
    (ChangeSpec.witness6 (enc := enc) (C := Try.checked) false ⟨#[], #[.agg #[.slice none 0 0, .slice none 0 0, .int .i64 0], .slice none 0 0], []⟩ 8 (by kernel_rfl) (by kernel_rfl) (by kernel_rfl) (by kernel_rfl)) ?_
  intro W base args ds gs before hval0 hW hcnd hsz0 _
  have hval : ∀ (j : Nat) t v, Try.f3.params[j]? = some t → args[j]? = some v → Value.okWide Try.prog W .any base t v := hval0
  have hsz : (DataW.weightsEach Try.prog (Try.f3.params.toList ++ Rows.circSimpleSpec.plain.varTypes Try.prog) (ds ++ gs)).all (· ≤ reachBytes) = true := hsz0
  have hW' := hW
  obtain ⟨p, q, hA0, hV, rfl, hfz, hnd⟩ := hW
  have hA : DataW.TrodAll enc Try.prog W 0 (fun _ => true) true Try.f3.params.toList args.toList ds p := hA0
  rw [Try.params3] at hA hval hsz
  obtain ⟨v0, v1, d0, d1, p0, p1, rfl, rfl, rfl, h0, h1⟩ := trodAll_two hA
  obtain ⟨rfl, rfl⟩ := trodVars_none hV
  have k0 := h0
  have k1 := h1
  obtain ⟨N, hN, hs, lt0⟩ := open_net (hval 0 25 v0 rfl rfl) h0 (light_of hsz (j := 0) rfl rfl)
  obtain ⟨a, ha, lt1⟩ := open_list (hval 1 26 v1 rfl rfl) h1 (light_of hsz (j := 1) rfl rfl)
  clear hA0 hval0 hsz0 hsz
  refine (CircSimple_any v0 v1 N a W hN ha hs).mono fun e W' ⟨he, bel⟩ => ?_
  subst he
  exact ⟨_, rfl, _, _, _, [], _, [], hW', trodAll_mk1 (shut_bool Try.underlying4 _), trodAll_mk2 (Below.trod Try.laidOut (by kernel_rfl) (of_decide_eq_true (by kernel_rfl)) k0 bel lt0) (Below.trod Try.laidOut (by kernel_rfl) (of_decide_eq_true (by kernel_rfl)) k1 bel lt1), rfl, bel.frame _, fun h => by cases h⟩

theorem circSimple_holds : Rows.CircSimpleSaid :=
  OpenClaim.holds_of_wide 3 Try.f3 rfl rfl rfl rfl rfl rfl rfl ⟨rfl, rfl, rfl, rfl, rfl⟩ rfl rfl rfl rfl rfl (by kernel_rfl) Try.func3 (by kernel_rfl)
    (of_decide_eq_true (by kernel_rfl)) (by unfold Func.isWrapper; first | (rw [if_pos (by decide +kernel)]; kernel_rfl) | (rw [if_neg (by decide +kernel)]; exact ⟨rfl, rfl⟩))
    (fun os started H enc _ => circSimple_lifted os started H enc)
#print axioms circSimple_holds
end Go.Proofs.Ytnlobmepajakcaa
