/- What a row of this seat says of the package variables when the call begins: the facts that the walks ask; no condition. -/
import Derived.Test.YtnlobmepajakcaaGreatDoorZScanB
import Derived.Test.YtnlobmepajakcaaGreatDoorZOpen
import Derived.Test.YtnlobmepajakcaaGreatDoorRows
import Derived.ProofKit
import Derived.ChangeOld
import Derived.OpenShut
import Derived.LaidMore
import Derived.Lay
import Derived.SizedLaws
import Derived.Shelf.Vars
import Derived.Lib.LaidTab
import Derived.Stop.Joined
set_option linter.unusedVariables false
set_option linter.unusedSimpArgs false
namespace Go.Proofs.YtnlobmepajakcaaGreatDoor
open Go.ChangeShapes Go.WideShapes Go.ChangeAt Go.RowKit Go.Shelf Go.Joins

def laidQ : List (String × DataW Unit) := [("math/bits.deBruijn32tab", Rows.laid_math_bits_deBruijn32tab), ("math/bits.deBruijn64tab", Rows.laid_math_bits_deBruijn64tab), ("internal/strconv.uint64pow10", Rows.laid_internal_strconv_uint64pow10),
  ("unicode/utf8.acceptRanges", Rows.laid_unicode_utf8_acceptRanges), ("strconv.ErrRange", Rows.laid_strconv_ErrRange), ("strconv.ErrSyntax", Rows.laid_strconv_ErrSyntax), ("skolem/qcir.words", Rows.laid_skolem_qcir_words), ("unicode/utf8.first", Rows.laid_unicode_utf8_first)]
/-- A world's cell of strings. -/
theorem var_heap {w : World} {name : String} {g : Nat} {cs : Array Value} (hg : Tryz.prog.globalNamed name = some g) (h : w.var? Tryz.prog name = some cs) : ∃ t f, w.heap[g]? = some (.cells cs t f) := by
  unfold World.var? at h
  rw [hg] at h
  simp only [Option.bind_some] at h
  split at h
  · rename_i c t f hc
    injection h with h
    subst h
    exact ⟨t, f, hc⟩
  · cases h
theorem ba_of {s : ByteArray} {l : Bs} (h : s.data.toList = l) : Value.string s = sv l := by
  subst h
  unfold sv
  rw [Array.toArray_toList]
theorem gPow : Tryz.prog.globalNamed "internal/strconv.uint64pow10" = some 2 := by kernel_rfl
theorem gWords : Tryz.prog.globalNamed "skolem/qcir.words" = some 0 := by kernel_rfl
theorem tPow : (Tryz.prog.globals[2]?).map (·.type) = some 187 := by kernel_rfl
theorem tWords : (Tryz.prog.globals[0]?).map (·.type) = some 103 := by kernel_rfl
theorem gRng : Tryz.prog.globalNamed "strconv.ErrRange" = some 6 := by kernel_rfl
theorem gSyn : Tryz.prog.globalNamed "strconv.ErrSyntax" = some 5 := by kernel_rfl
theorem tRng : (Tryz.prog.globals[6]?).map (·.type) = some 31 := by kernel_rfl
theorem tSyn : (Tryz.prog.globals[5]?).map (·.type) = some 31 := by kernel_rfl
theorem u31 : ∃ ms, Tryz.prog.underlying 31 = some (.interface ms) := ⟨_, Tryz.underlying31⟩
set_option maxRecDepth 100000 in
theorem of_laid {W : World} (h : laidMetH Tryz.prog laidQ W) : (∃ tp p, W.var? Tryz.prog "strconv.ErrSyntax" = some #[.iface tp p]) ∧ (∃ tp p, W.var? Tryz.prog "strconv.ErrRange" = some #[.iface tp p]) ∧
    Lib.TabIs Tryz.prog W "internal/strconv.uint64pow10" .u64 Lib.pow10Tab ∧ ∃ t f, W.heap[0]? = some (.cells #[sv [], sv wAnd, sv wOr, sv wXor, sv wIte] t f) := by
  rw [MakeChecks.laidMetH_plain _ _ _ (by kernel_rfl)] at h
  obtain ⟨ps, ⟨_, _, _, _, _, _, _, _, _, _, ⟨_, _, _, _, _, _, _, _, _, _, ⟨g2, t2, cs2, f2, p2, q2, hg2, ht2, hv2, hd2, ⟨_, _, _, _, _, _, _, _, _, _, ⟨g4, t4, cs4, f4, p4, q4, hg4, ht4, hv4, hd4,
    ⟨g5, t5, cs5, f5, p5, q5, hg5, ht5, hv5, hd5, ⟨g6, t6, cs6, f6, p6, q6, hg6, ht6, hv6, hd6, _, _⟩, _⟩, _⟩, _⟩, _⟩, _⟩, _⟩, _, _⟩ := h
  obtain rfl := Option.some.inj (gPow.symm.trans hg2)
  obtain rfl := Option.some.inj (tPow.symm.trans ht2)
  obtain rfl := Option.some.inj (gRng.symm.trans hg4)
  obtain rfl := Option.some.inj (tRng.symm.trans ht4)
  obtain rfl := Option.some.inj (gSyn.symm.trans hg5)
  obtain rfl := Option.some.inj (tSyn.symm.trans ht5)
  obtain rfl := Option.some.inj (gWords.symm.trans hg6)
  obtain rfl := Option.some.inj (tWords.symm.trans ht6)
  obtain ⟨ms, hms⟩ := u31
  refine ⟨?_, ?_, ?_, ?_⟩
  · obtain ⟨_, u, v, e, _, _⟩ := iface_of_trod hms hd5
    exact ⟨u, v, by rw [hv5]; congr 1; exact Array.ext' e⟩
  · obtain ⟨_, u, v, e, _, _⟩ := iface_of_trod hms hd4
    exact ⟨u, v, by rw [hv4]; congr 1; exact Array.ext' e⟩
  · have hd2' : DataW.trod (fun _ => ()) Tryz.prog W 0 (fun _ => true) false f2 187 cs2.toList = some (Lib.tabData .u64 Lib.pow10Tab, p2) := hd2
    have e := Lib.cells_of_tab (n := 20) (e := 125) Tryz.underlying187 (by kernel_rfl) (by kernel_rfl) (by kernel_rfl) hd2'
    unfold Lib.TabIs
    rw [hv2, ← e]
  · obtain ⟨t, f, hh⟩ := var_heap gWords hv6
    obtain ⟨xs, m, -, hx, hl, hn, hel⟩ := DataW.trod_array Tryz.underlying103 hd6
    have c9 : Tryz.prog.cellsOf 9 = 1 := by kernel_rfl
    have c103 : Tryz.prog.cellsOf 103 = 5 := by kernel_rfl
    have ex : xs.map (·.1) = [.lit (.string []), .lit (.string wAnd), .lit (.string wOr), .lit (.string wXor), .lit (.string wIte)] := by
      have := congrArg Prod.fst hx
      exact (DataW.agg.inj this).symm
    rw [c103] at hl
    obtain ⟨l⟩ := cs6
    have key : ∀ (i : Nat) (b : Bs), i < 5 → (xs.map (·.1))[i]? = some (.lit (.string b) : DataW Unit) → l[i]? = some (sv b) := by
      intro i b hi hb
      have hE := hel i hi
      rw [c9, Nat.mul_one] at hE
      rw [List.getElem?_map] at hb
      obtain ⟨y, hy, hyb⟩ := Option.map_eq_some_iff.1 hb
      rw [hy] at hE
      obtain ⟨s, e1, e2, _⟩ := DataW.trod_string (by kernel_rfl) hE
      rw [e2] at hyb
      have hs : s.data.toList = b := by injection hyb with hyb; injection hyb
      have h0 : ((l.drop i).take 1)[0]? = some (.string s) := by
        have : (List.drop i l).take 1 = [.string s] := e1
        rw [this]; rfl
      rw [← ba_of hs]
      simpa using h0
    rw [ex] at key
    refine ⟨t, f, ?_⟩
    rw [hh]
    congr 2
    have k0 := key 0 [] (by omega) rfl
    have k1 := key 1 wAnd (by omega) rfl
    have k2 := key 2 wOr (by omega) rfl
    have k3 := key 3 wXor (by omega) rfl
    have k4 := key 4 wIte (by omega) rfl
    match l, hl, k0, k1, k2, k3, k4 with
    | [a, b, c, d, e], _, k0, k1, k2, k3, k4 =>
      injection k0 with k0; injection k1 with k1; injection k2 with k2; injection k3 with k3; injection k4 with k4
      rw [k0, k1, k2, k3, k4]
theorem shaped_max {W : World} (h : W.ShapedOpen Tryz.prog) : ∃ m, W.cell? ⟨1, 0, none⟩ = some (.int .i64 m) :=
  cell_of_shapedOpen_int (t := 3) (zero := #[.int .i64 0]) h (of_decide_eq_true (by kernel_rfl)) (by kernel_rfl) rfl (by kernel_rfl) (by kernel_rfl) Tryz.underlying3
theorem shaped_size {W : World} (h : W.ShapedOpen Tryz.prog) : 9 ≤ W.heap.size := by
  have hs : (((begin Tryz.prog (fun _ _ => 0) default).world.heap[8]?).bind Obj.row?).isSome = true := by kernel_rfl
  obtain ⟨⟨zero, t⟩, hz⟩ := Option.isSome_iff_exists.1 hs
  obtain ⟨cs, h1, _⟩ := h.1 8 zero t (of_decide_eq_true (by kernel_rfl)) hz
  exact (Array.getElem?_eq_some_iff.1 h1).1
theorem env_of {W : World} (h : laidMetH Tryz.prog laidQ W) (hs : W.ShapedOpen Tryz.prog) : Env W := by
  obtain ⟨h1, h2, h3, h4⟩ := of_laid h
  exact ⟨shaped_size hs, h1, h2, h3, shaped_max hs, h4⟩
set_option maxRecDepth 100000 in
/-- A row of this seat, from a contract that is given the facts on the variables. -/
theorem returns_laid {os : Os} {H : Type} {enc : TypeId × Value → H} {f : FuncId} {fn : Func} {s : ChangeSpec} (started : os.Started) (noInit : Tryz.checked.prog.inits.idxOf? f = none) (hfn : Tryz.checked.prog.funcs[f]? = some fn)
    (witness : ∃ (w : World) (tape : Tape) (i : Input), w.os = os ∧ (w.forCall tape i).Shaped Tryz.checked.prog ∧ i.vars = [] ∧ Input.okWide Tryz.checked.prog (w.forCall tape i) .any w.heap.size f i ∧
      ((s.pre enc Tryz.checked.prog fn [] false (w.forCall tape i).memory i.args ∧ laidMetH Tryz.prog laidQ (w.forCall tape i).memory) ∧ sizedMet enc Tryz.checked.prog fn (OpenSpec.ofChange s) false (w.forCall tape i).memory i.args) ∧
      Assume.holds {} Tryz.checked.prog (lone (Frame.enter Tryz.checked.prog f i.args .normal) [] (w.forCall tape i)))
    (contract : ∀ (W : World) (base : Nat) (args : Array Value) (ds gs : List (DataW H)) (before : List MemPlace),
      (∀ (j : Nat) t v, fn.params[j]? = some t → args[j]? = some v → Value.okWide Tryz.checked.prog W .any base t v) →
      DataW.Whole enc Tryz.checked.prog fn.params.toList s.vars false W args.toList ds gs before →
      (DataW.weightsEach Tryz.checked.prog (fn.params.toList ++ s.plain.varTypes Tryz.checked.prog) (ds ++ gs)).all (· ≤ reachBytes) = true → Env W →
      Calls Tryz.checked.prog f args W fun e W' => ∃ v, e = .returned v ∧ s.post enc Tryz.checked.prog fn false true false false W args v W') :
    ReturnsInHanded {} Tryz.checked os f .any (fun w args => (s.pre enc Tryz.checked.prog fn [] false w args ∧ laidMetH Tryz.prog laidQ w) ∧ sizedMet enc Tryz.checked.prog fn (OpenSpec.ofChange s) false w args) (s.post enc Tryz.checked.prog fn false true false false) := by
  refine returnsInHanded_of_calls Tryz.own started noInit witness ?_
  intro w tape i _ hsh _ hok hpre hholds
  obtain ⟨_, _, _, fn', hfn', _, _, _, _, hval⟩ := hok
  obtain rfl : fn' = fn := Option.some.inj (hfn'.symm.trans hfn)
  obtain ⟨⟨⟨ds, gs, before, hw, _⟩, hx⟩, hz⟩ := hpre
  have hE : Env (w.forCall tape i) := env_of (hx.of_heap (by rfl)) hsh
  refine (contract (w.forCall tape i) w.heap.size i.args ds gs before hval (DataW.Whole.of_heap (w' := w.forCall tape i) (by rfl) hw) (hz.weights hw) hE).mono fun e W' ⟨v, he, hp⟩ => ?_
  subst he
  exact ChangeSpec.post_blind hp
end Go.Proofs.YtnlobmepajakcaaGreatDoor
