/- What an argument reads as: a slice of whole numbers, of blocks, of gates, and a net; the condition: what is read takes at most the bytes of the form's own reach. -/
import Derived.Test.YtnlobmepajakcaaGreatDoorZBase
import Derived.ProofKit
import Derived.SizedLaws
import Derived.Deep.Strs
import Derived.Lib.SmallJoins
set_option linter.unusedVariables false
set_option linter.unusedSimpArgs false
namespace Go.Proofs.YtnlobmepajakcaaGreatDoor
open Go.RowKit Go.Shelf Go.Deep Go.Joins

theorem add_plain0 (b off n : Nat) : (⟨b, off, none⟩ : Addr).add n = ⟨b, off + n, none⟩ := by unfold Addr.add; split <;> simp_all
theorem spot_of_add {w : World} {a : Addr} {v : Value} (h : w.cell? (a.add 0) = some v) : a.spot = none := by
  have := World.cell?_spot h
  simpa [Addr.add] using this
section
variable {H : Type} {enc : TypeId × Value → H} {w : World}
/-- The weights of what is read are small. -/
def LightD (t : TypeId) (d : DataW H) : Prop := ∀ m ∈ d.weights Tryz.prog t, m ≤ reachBytes
theorem weightsAll_mem {e : TypeId} : ∀ {ds : List (DataW H)} {d : DataW H}, d ∈ ds → ∀ m ∈ d.weights Tryz.prog e, m ∈ DataW.weightsAll Tryz.prog e ds
  | x :: ds, d, h, m, hm => by
    unfold DataW.weightsAll
    rw [List.mem_append]
    rcases List.mem_cons.1 h with rfl | h
    · exact .inl hm
    · exact .inr (weightsAll_mem h m hm)
theorem open_sl {α : Type} [Inhabited α] {t e : TypeId} {sz : Nat} (ht : Tryz.prog.underlying t = some (.slice e)) (hc : Tryz.prog.cellsOf e = sz) (hsz : 0 < sz) (R : World → Nat → Nat → α → Prop) (Q : α → Prop)
    (hel : ∀ n cs y, DataW.trod enc Tryz.prog w 0 (fun _ => true) true n e cs = some y → LightD e y.1 → ∀ b off, (∀ i, i < sz → w.cell? ⟨b, off + i, none⟩ = cs[i]?) → cs.length = sz → ∃ x, R w b off x ∧ Q x)
    {fuel : Nat} {cs : List Value} {x : DataW H × List MemPlace} (h : DataW.trod enc Tryz.prog w 0 (fun _ => true) true fuel t cs = some x) (hz : LightD t x.1) :
    ∃ v xs, cs = [v] ∧ SlAt sz R w v xs ∧ (∀ x ∈ xs, Q x) ∧ xs.length * Tryz.prog.bytesOf e ≤ reachBytes := by
  rcases open_slice ht h with ⟨rfl, rfl⟩ | ⟨a, len, cap, m, n, D, Pl, rfl, -, hl, hm, hmm, rfl, hx⟩
  · exact ⟨_, [], rfl, ⟨none, 0, rfl, Nat.le_refl _, by omega, fun h => by simp at h⟩, (fun x hx => by cases hx), by simp⟩
  · simp only [if_true] at hmm
    subst hmm
    rw [hc] at hx
    have hw1 : (len + (m - len)) * Tryz.prog.bytesOf e ≤ reachBytes := by
      have := hz ((len + (m - len)) * Tryz.prog.bytesOf e) (by simp [DataW.weights, ht])
      exact this
    have hcell : ∀ i, i < len → ∃ b off, a = ⟨b, off, none⟩ ∧ ∃ x, R w b (off + i * sz) x ∧ Q x := by
      intro i hi
      obtain ⟨cs', h1, h2⟩ := hx i (by omega)
      obtain ⟨-, hlen, hg⟩ := World.cells?_some h1
      have hsp : a.spot = none := by
        obtain ⟨cs0, k1, k2⟩ := hx 0 (by omega)
        obtain ⟨-, klen, kg⟩ := World.cells?_some k1
        have := kg 0 hsz
        rw [Nat.zero_mul] at this
        have e0 : cs0[0]? = some (cs0[0]'(by omega)) := List.getElem?_eq_getElem (by omega)
        rw [e0] at this
        have := spot_of_add this
        simpa [Addr.add] using this
      obtain ⟨b, off, sp⟩ := a
      simp only at hsp
      subst hsp
      refine ⟨b, off, rfl, hel _ _ _ h2 ?_ b (off + i * sz) (fun j hj => ?_) hlen⟩
      · intro q hq
        apply hz q
        unfold DataW.weights
        rw [ht]
        simp only [List.mem_cons, List.mem_append]
        right; left
        exact weightsAll_mem (d := D i) (List.mem_map.2 ⟨i, List.mem_range.2 hi, rfl⟩) q hq
      · have := hg j hj
        rw [add_plain0, add_plain0] at this
        exact this
    obtain ⟨X, hX⟩ := choose_lt (α := α) (p := fun i x => ∃ b off, a = ⟨b, off, none⟩ ∧ R w b (off + i * sz) x ∧ Q x) (fun i hi => by
      obtain ⟨b, off, e, x, h1, h2⟩ := hcell i hi
      exact ⟨x, b, off, e, h1, h2⟩)
    have hlenX : ((List.range len).map X).length = len := by simp
    refine ⟨_, (List.range len).map X, rfl, ⟨some a, m, by rw [hlenX], by rw [hlenX]; exact hl, by simpa [maxLen] using hm, fun hp => ?_⟩, ?_, ?_⟩
    · rw [hlenX] at hp
      obtain ⟨b, off, e, -⟩ := hX 0 hp
      refine ⟨b, off, by rw [e], fun j x hj => ?_⟩
      rw [List.getElem?_map] at hj
      obtain ⟨i, hi, rfl⟩ := Option.map_eq_some_iff.1 hj
      obtain ⟨hi1, hi2⟩ := List.getElem?_eq_some_iff.1 hi
      simp only [List.getElem_range] at hi2
      subst hi2
      obtain ⟨b', off', e', h1, -⟩ := hX j (by simpa using hi1)
      rw [e] at e'
      injection e' with e1 e2
      subst e1; subst e2
      exact h1
    · intro x hx
      obtain ⟨i, hi, rfl⟩ := List.mem_map.1 hx
      obtain ⟨_, _, _, _, h2⟩ := hX i (List.mem_range.1 hi)
      exact h2
    · rw [hlenX]
      exact Nat.le_trans (Nat.mul_le_mul_right _ (by omega)) hw1

theorem cells3 : Tryz.prog.cellsOf 3 = 1 := by kernel_rfl
theorem cells4 : Tryz.prog.cellsOf 4 = 1 := by kernel_rfl
theorem cells26 : Tryz.prog.cellsOf 48 = 1 := by kernel_rfl
theorem cells68 : Tryz.prog.cellsOf 86 = 1 := by kernel_rfl
theorem cells70 : Tryz.prog.cellsOf 88 = 3 := by kernel_rfl
theorem cells80 : Tryz.prog.cellsOf 71 = 2 := by kernel_rfl
theorem cells25 : Tryz.prog.cellsOf 40 = 3 := by kernel_rfl
theorem bytes3 : Tryz.prog.bytesOf 3 = 8 := by kernel_rfl
theorem wf_i64 {x : Int} (h : (Lit.int .i64 x).wf = true) : I64 x := by
  unfold I64
  simp [Lit.wf, IntKind.min, IntKind.max, IntKind.signed, IntKind.bits] at h
  omega
theorem open_ints0 {fuel : Nat} {cs : List Value} {x : DataW H × List MemPlace} (h : DataW.trod enc Tryz.prog w 0 (fun _ => true) true fuel 48 cs = some x) (hz : LightD 48 x.1) :
    ∃ v xs, cs = [v] ∧ IntsAt w v xs ∧ xs.length ≤ 17592186044416 := by
  obtain ⟨v, xs, e, h1, -, h2⟩ := open_sl (α := Int) Tryz.underlying48 cells3 (by omega) IntC (fun _ => True) (fun n cs y hy _ b off hcell hlen => by
    obtain ⟨m, rfl, -, hwf⟩ := DataW.trod_int Tryz.underlying3 hy
    exact ⟨m, ⟨by simpa using hcell 0 (by omega), wf_i64 hwf⟩, trivial⟩) h hz
  rw [bytes3] at h2
  exact ⟨v, xs, e, h1, by unfold reachBytes at h2; omega⟩
def ShortG (g : PGate) : Prop := g.ins.length ≤ 17592186044416
set_option maxRecDepth 100000 in
theorem open_blocks0 {fuel : Nat} {cs : List Value} {x : DataW H × List MemPlace} (h : DataW.trod enc Tryz.prog w 0 (fun _ => true) true fuel 37 cs = some x) (hz : LightD 37 x.1) :
    ∃ v xs, cs = [v] ∧ BlocksAt w v xs := by
  obtain ⟨v, xs, e, h1, -, -⟩ := open_sl (α := PBlock) Tryz.underlying37 cells80 (by omega) BlockC (fun _ => True) (fun n cs y hy hw b off hcell hlen => by
    obtain ⟨y0, y1, m, rfl, -, t0, t1⟩ := ChangeShapes.trod_struct2 Tryz.underlying71 hy
    obtain ⟨c0, c1, rfl⟩ : ∃ c0 c1, cs = [c0, c1] := by
      match cs, hlen with
      | [c0, c1], _ => exact ⟨_, _, rfl⟩
    · replace t0 : DataW.trod enc Tryz.prog w 0 (fun _ => true) true m 4 (List.take (Tryz.prog.cellsOf 4) [c0, c1]) = some y0 := t0
      replace t1 : DataW.trod enc Tryz.prog w 0 (fun _ => true) true m 48 (List.take (Tryz.prog.cellsOf 48) [c1]) = some y1 := t1
      rw [cells4] at t0
      rw [cells26] at t1
      obtain ⟨ex, e0, -⟩ := DataW.trod_bool Tryz.underlying4 t0
      obtain ⟨v, xs, e1, h1, -⟩ := open_ints0 t1 (by
        intro q hq
        apply hw q
        unfold DataW.weights
        rw [Tryz.underlying71]
        show q ∈ DataW.weights Tryz.prog 4 y0.1 ++ (DataW.weights Tryz.prog 48 y1.1 ++ [])
        rw [List.mem_append, List.mem_append]
        exact .inr (.inl hq))
      injection e0 with e0 _; injection e1 with e1 _
      subst e0; subst e1
      exact ⟨⟨ex, xs⟩, ⟨by simpa using hcell 0 (by omega), c1, by simpa using hcell 1 (by omega), h1⟩, trivial⟩) h hz
  exact ⟨v, xs, e, h1⟩
set_option maxRecDepth 100000 in
theorem open_gates0 {fuel : Nat} {cs : List Value} {x : DataW H × List MemPlace} (h : DataW.trod enc Tryz.prog w 0 (fun _ => true) true fuel 38 cs = some x) (hz : LightD 38 x.1) :
    ∃ v xs, cs = [v] ∧ GatesAt w v xs ∧ (∀ g ∈ xs, ShortG g) := by
  obtain ⟨v, xs, e, h1, h2, -⟩ := open_sl (α := PGate) Tryz.underlying38 cells70 (by omega) GateC ShortG (fun n cs y hy hw b off hcell hlen => by
    obtain ⟨y0, y1, y2, m, rfl, -, t0, t1, t2⟩ := trod_struct3 Tryz.underlying88 hy
    obtain ⟨c0, c1, c2, rfl⟩ : ∃ c0 c1 c2, cs = [c0, c1, c2] := by
      match cs, hlen with
      | [c0, c1, c2], _ => exact ⟨_, _, _, rfl⟩
    · replace t0 : DataW.trod enc Tryz.prog w 0 (fun _ => true) true m 3 (List.take (Tryz.prog.cellsOf 3) [c0, c1, c2]) = some y0 := t0
      replace t1 : DataW.trod enc Tryz.prog w 0 (fun _ => true) true m 86 (List.take (Tryz.prog.cellsOf 86) [c1, c2]) = some y1 := t1
      replace t2 : DataW.trod enc Tryz.prog w 0 (fun _ => true) true m 48 (List.take (Tryz.prog.cellsOf 48) [c2]) = some y2 := t2
      rw [cells3] at t0
      rw [cells68] at t1
      rw [cells26] at t2
      obtain ⟨p, e0, -, hp⟩ := DataW.trod_int Tryz.underlying3 t0
      obtain ⟨k, e1, -, hk⟩ := DataW.trod_int Tryz.underlying86 t1
      obtain ⟨v, xs, e2, h1, hs⟩ := open_ints0 t2 (by
        intro q hq
        apply hw q
        unfold DataW.weights
        rw [Tryz.underlying88]
        show q ∈ DataW.weights Tryz.prog 3 y0.1 ++ (DataW.weights Tryz.prog 86 y1.1 ++ (DataW.weights Tryz.prog 48 y2.1 ++ []))
        rw [List.mem_append, List.mem_append, List.mem_append]
        exact .inr (.inr (.inl hq)))
      injection e0 with e0 _; injection e1 with e1 _; injection e2 with e2 _
      subst e0; subst e1; subst e2
      have hk2 : 0 ≤ k ∧ k ≤ 255 := by
        simp [Lit.wf, IntKind.min, IntKind.max, IntKind.signed, IntKind.bits] at hk
        omega
      exact ⟨⟨p, k, xs⟩, ⟨by simpa using hcell 0 (by omega), by simpa using hcell 1 (by omega), wf_i64 hp, hk2.1, hk2.2, c2, by simpa using hcell 2 (by omega), h1⟩, hs⟩) h hz
  exact ⟨v, xs, e, h1, h2⟩
end
open Go.ChangeShapes Go.WideShapes Go.ChangeAt Go.RowKit Go.Joins
theorem Tryz.own : ownKnob Tryz.prog.godebug = none := by kernel_rfl
theorem Tryz.laidOut : laidOutB Tryz.prog = true := by kernel_rfl
section
variable {H : Type} {enc : TypeId × Value → H} {W : World}
theorem light_of {ts : List TypeId} {ds : List (DataW H)} {j : Nat} {t : TypeId} {d : DataW H} (h : (DataW.weightsEach Tryz.prog ts ds).all (· ≤ reachBytes) = true) (ht : ts[j]? = some t) (hd : ds[j]? = some d) : LightD t d := by
  intro m hm
  have := List.all_eq_true.1 h _ (DataW.weights_mem_each ht hd m hm)
  simpa using this
set_option maxRecDepth 100000 in
/-- A net that came in. -/
theorem open_net {base : Nat} {v : Value} {d : DataW H} {p : List MemPlace} (hv : Value.okWide Tryz.prog W .any base 40 v) (h : DataW.Trod enc Tryz.prog W 0 (fun _ => true) true 40 v d p) (hz : LightD 40 d) :
    ∃ N, NetAt W v N ∧ (∀ g ∈ N.gates, ShortG g) ∧ ∀ x ∈ p, x.block < W.heap.size := by
  have hlt : ∀ x ∈ p, x.block < W.heap.size := by obtain ⟨m, hm⟩ := h; exact DataW.trod_lt m _ _ _ hm
  obtain ⟨v0, v1, v2, y0, y1, y2, n, rfl, rfl, rfl, t0, t1, t2⟩ := open_agg3 Tryz.underlying40 (by kernel_rfl) cells25 hv h
  have hw : ∀ q, (q ∈ DataW.weights Tryz.prog 37 y0.1 ∨ q ∈ DataW.weights Tryz.prog 38 y1.1) → q ≤ reachBytes := by
    intro q hq
    apply hz q
    unfold DataW.weights
    rw [Tryz.underlying40]
    show q ∈ DataW.weights Tryz.prog 37 y0.1 ++ (DataW.weights Tryz.prog 38 y1.1 ++ (DataW.weights Tryz.prog 3 y2.1 ++ []))
    rw [List.mem_append, List.mem_append]
    rcases hq with hq | hq
    · exact .inl hq
    · exact .inr (.inl hq)
  obtain ⟨u0, bs, e0, hb⟩ := open_blocks0 t0 (fun q hq => hw q (.inl hq))
  obtain ⟨u1, gs, e1, hg, hs⟩ := open_gates0 t1 (fun q hq => hw q (.inr hq))
  obtain ⟨o, e2, -, ho⟩ := DataW.trod_int Tryz.underlying3 t2
  injection e0 with e0 _; injection e1 with e1 _; injection e2 with e2 _
  subst e0; subst e1; subst e2
  exact ⟨⟨bs, gs, o⟩, ⟨_, _, rfl, wf_i64 ho, hb, hg⟩, hs, hlt⟩
set_option maxRecDepth 100000 in
/-- A list that came in. -/
theorem open_list {v : Value} {d : DataW H} {p : List MemPlace} {base : Nat} (hv : Value.okWide Tryz.prog W .any base 48 v) (h : DataW.Trod enc Tryz.prog W 0 (fun _ => true) true 48 v d p) (hz : LightD 48 d) :
    ∃ xs, IntsAt W v xs ∧ ∀ x ∈ p, x.block < W.heap.size := by
  have hlt : ∀ x ∈ p, x.block < W.heap.size := by obtain ⟨m, hm⟩ := h; exact DataW.trod_lt m _ _ _ hm
  obtain ⟨a0, l0, c0, rfl⟩ := okWide_slice Tryz.underlying48 hv
  obtain ⟨fuel, hf⟩ := h
  obtain ⟨u, xs, e, hx, -⟩ := open_ints0 hf hz
  have e' : u = .slice a0 l0 c0 := by
    have : [Value.slice a0 l0 c0] = [u] := e
    injection this with this _
    exact this.symm
  subst e'
  exact ⟨xs, hx, hlt⟩
end
end Go.Proofs.YtnlobmepajakcaaGreatDoor
