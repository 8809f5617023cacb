/- What the reference's Order does; the conditions: what it is given reads as data, with at most 300 gates and 1,500 literals. -/
import Derived.Test.YtnlobmepajakcaaRefL
import Derived.Test.YtnlobmepajakcaaOrdC
set_option linter.unusedVariables false
set_option linter.unusedSimpArgs false
namespace Go.Proofs.Ytnlobmepajakcaa
open Go.RowKit Go.Shelf

/-- A row of n bools in a block of its own. -/
def RowT (w : World) (b n : Nat) (S : Nat → Bool) : Prop :=
  ∃ cs : Array Value, w.heap[b]? = some (.cells cs 4 (0, 0)) ∧ cs.size = n ∧ ∀ i, i < n → cs[i]? = some (.bool (S i))
theorem RowT.cell {w : World} {b n : Nat} {S : Nat → Bool} (h : RowT w b n S) (i : Nat) (hi : i < n) : w.cell? ⟨b, i, none⟩ = some (.bool (S i)) := by
  obtain ⟨cs, h1, _, h3⟩ := h
  rw [cell_of_row w b i cs 4 (0, 0) h1, h3 i hi]
theorem RowT.free {w : World} {b n : Nat} {S : Nat → Bool} (h : RowT w b n S) (i : Nat) : w.frozen? ⟨b, i, none⟩ = false := by
  obtain ⟨cs, h1, _, h3⟩ := h
  exact frozen_of_row w b i cs 4 h1
theorem RowT.lt {w : World} {b n : Nat} {S : Nat → Bool} (h : RowT w b n S) : b < w.heap.size := by
  obtain ⟨cs, h1, _, h3⟩ := h
  exact (Array.getElem?_eq_some_iff.1 h1).1
theorem RowT.heap {w w' : World} {b n : Nat} {S : Nat → Bool} (h : RowT w b n S) (e : w'.heap[b]? = w.heap[b]?) : RowT w' b n S := by
  obtain ⟨cs, h1, h2, h3⟩ := h
  exact ⟨cs, e.trans h1, h2, h3⟩
theorem RowT.below {w w' : World} {b n : Nat} {S : Nat → Bool} (h : RowT w b n S) (hb : Below w.heap.size w w') : RowT w' b n S := h.heap (hb.block b h.lt)
theorem RowT.store {w : World} {b n : Nat} {S : Nat → Bool} (h : RowT w b n S) (i : Nat) (x : Bool) : RowT (w.setCell ⟨b, i, none⟩ (.bool x)) b n (upd S i x) := by
  obtain ⟨cs, h1, h2, h3⟩ := h
  refine ⟨cs.setIfInBounds i (.bool x), heap_setCell_same w b i cs 4 _ h1, by simp [h2], fun j hj => ?_⟩
  rw [Array.getElem?_setIfInBounds]
  unfold upd
  by_cases e : j = i
  · subst e
    simp [h2, hj]
  · rw [if_neg (fun e' => e e'.symm), if_neg e]
    exact h3 j hj
theorem RowT.at_ {w : World} {b n : Nat} {S : Nat → Bool} (h : RowT w b n S) (xs : List Bool) (hl : xs.length = n) (hn : n ≤ 9223372036854775807) (hx : ∀ j x, xs[j]? = some x → S j = x) : BoolsAt w (.slice (some ⟨b, 0, none⟩) n n) xs := by
  subst hl
  refine ⟨_, _, rfl, Nat.le_refl _, hn, fun _ => ⟨b, 0, rfl, fun j x hj => ?_⟩⟩
  show _ = _
  rw [Nat.zero_add, Nat.mul_one, h.cell j (List.getElem?_eq_some_iff.1 hj).1, hx j x hj]
theorem make47r (n : Nat) (h : n ≤ 1099511627776) (W : World) : (Instr.makeSlice 47 (.int .i64 (n : Int)) (.int .i64 (n : Int))).run Try.prog W = .ok (.slice (some ⟨W.heap.size, 0, none⟩) n n) (W.alloc (.cells (madeCells #[.bool false] n) 4)) := by
  obtain ⟨i0, hi, hzz⟩ := Option.map_eq_some_iff.1 info4
  simp only [Prod.mk.injEq] at hzz
  obtain ⟨hz0, hz1, hz2⟩ := hzz
  have := run_make (P := Try.prog) W 47 4 i0 (.bool false) Try.underlying47 hi hz0 .i64 .i64 n n (by omega) (Int.le_refl _) (by rw [hz2]; omega) (by omega)
  rw [hz1, Nat.mul_one, Int.toNat_natCast] at this
  exact this
theorem row_madeT (w : World) (n : Nat) : RowT (w.alloc (.cells (madeCells #[Value.bool false] n) 4)) w.heap.size n noS :=
  ⟨_, heap_alloc_new w _, by simp [madeCells], fun i hi => by unfold madeCells noS; simp [hi, Nat.mod_one]⟩

theorem addIns_set : ∀ (vs : List Int) {S A : Nat → Bool}, addIns S vs = some A → (∀ i, A i = (S i || decide ((i : Int) ∈ vs))) ∧ ∀ v ∈ vs, 1 ≤ v ∧ v ≤ 65536
  | [], S, A, h => by injection h with h; subst h; exact ⟨fun i => by simp, fun v hv => by cases hv⟩
  | x :: xs, S, A, h => by
    rw [addIns_cons] at h
    by_cases hx : addB S x = true
    · rw [if_pos hx] at h
      obtain ⟨h1, h2⟩ := addIns_set xs h
      rw [addB_iff] at hx
      refine ⟨fun i => ?_, fun v hv => ?_⟩
      · rw [h1 i]
        unfold upd
        by_cases e : i = x.toNat
        · have : (i : Int) = x := by omega
          rw [if_pos e]; simp [this]
        · have : (i : Int) ≠ x := by omega
          rw [if_neg e]; simp [this]
      · rcases List.mem_cons.1 hv with rfl | hv
        · exact ⟨hx.1, hx.2.1⟩
        · exact h2 v hv
    · rw [if_neg hx] at h; cases h
theorem addGs_R : ∀ (gs : List PGate) {S A : Nat → Bool}, SetR S → addGs S gs = some A → SetR A
  | [], S, A, hS, h => by injection h with h; subst h; exact hS
  | x :: gs, S, A, hS, h => by
    rw [addGs_cons] at h
    split at h
    · cases h
    · split at h
      · rename_i h2; exact addGs_R gs (hS.upd h2) h
      · cases h
theorem ready_all (S : Nat → Bool) (g : PGate) : readyG S g = g.ins.all fun l => S (absN l) := by
  unfold readyG
  rw [Bool.eq_iff_iff]
  simp
/-- The gates that are not taken. -/
def remF (t : Nat → Bool) : Nat → List PGate → List PGate
  | _, [] => []
  | k, g :: gs => if t k = true then remF t (k + 1) gs else g :: remF t (k + 1) gs
/-- The place of the first gate that is ready and not taken. -/
def pickAt (S t : Nat → Bool) : Nat → List PGate → Option Nat
  | _, [] => none
  | k, g :: gs => if (!t k && readyG S g) = true then some k else pickAt S t (k + 1) gs
theorem remF_low (t : Nat → Bool) (a : Nat) (x : Bool) : ∀ (gs : List PGate) (k : Nat), a < k → remF (upd t a x) k gs = remF t k gs
  | [], k, h => rfl
  | g :: gs, k, h => by
    have e : upd t a x k = t k := by unfold upd; rw [if_neg (by omega)]
    unfold remF
    rw [e, remF_low t a x gs (k + 1) (by omega)]
theorem remF_none (gs : List PGate) (k : Nat) : remF noS k gs = gs := by
  induction gs generalizing k with
  | nil => rfl
  | cons g gs ih => unfold remF; rw [if_neg (by simp [noS]), ih]
theorem remF_sub (t : Nat → Bool) : ∀ (gs : List PGate) (k : Nat), ∀ g ∈ remF t k gs, g ∈ gs
  | [], k, g, h => by cases h
  | x :: gs, k, g, h => by
    unfold remF at h
    split at h
    · exact .tail _ (remF_sub t gs _ g h)
    · rcases List.mem_cons.1 h with rfl | h
      · exact .head _
      · exact .tail _ (remF_sub t gs _ g h)
theorem pick_at (S t : Nat → Bool) : ∀ (gs : List PGate) (k : Nat), (pickAt S t k gs = none ∧ pickG S (remF t k gs) = none) ∨
    ∃ (a : Nat) (g : PGate), pickAt S t k gs = some a ∧ k ≤ a ∧ gs[a - k]? = some g ∧ t a = false ∧ pickG S (remF t k gs) = some (g, remF (upd t a true) k gs)
  | [], k => .inl ⟨rfl, rfl⟩
  | x :: gs, k => by
    unfold pickAt remF
    by_cases ht : t k = true
    · rw [if_neg (by rw [ht]; simp), if_pos ht]
      rcases pick_at S t gs (k + 1) with ⟨h1, h2⟩ | ⟨a, g, h1, h2, h3, h4, h5⟩
      · exact .inl ⟨h1, h2⟩
      · refine .inr ⟨a, g, h1, by omega, by rw [show a - k = (a - (k + 1)) + 1 by omega]; simpa using h3, h4, ?_⟩
        rw [if_pos (by unfold upd; split; rfl; exact ht)]; exact h5
    · have ht' : t k = false := by simpa using ht
      rw [if_neg ht]
      unfold pickG
      by_cases hr : readyG S x = true
      · rw [if_pos (by rw [ht', hr]; rfl), if_pos hr]
        refine .inr ⟨k, x, rfl, Nat.le_refl _, by simp, ht', ?_⟩
        rw [if_pos (by unfold upd; rw [if_pos rfl]), remF_low t k true gs (k + 1) (by omega)]
      · rw [if_neg (by rw [ht']; simpa using hr), if_neg hr]
        rcases pick_at S t gs (k + 1) with ⟨h1, h2⟩ | ⟨a, g, h1, h2, h3, h4, h5⟩
        · exact .inl ⟨h1, by rw [h2]; rfl⟩
        · refine .inr ⟨a, g, h1, by omega, by rw [show a - k = (a - (k + 1)) + 1 by omega]; simpa using h3, h4, ?_⟩
          have e : upd t a true k = t k := by unfold upd; rw [if_neg (by omega)]
          rw [h5, e, if_neg ht]; rfl
theorem pick_len {S : Nat → Bool} : ∀ {l : List PGate} {g : PGate} {l' : List PGate}, pickG S l = some (g, l') → l.length = l'.length + 1
  | [], g, l', h => by cases h
  | x :: l, g, l', h => by
    unfold pickG at h
    split at h
    · injection h with h; injection h with h1 h2; subst h2; rfl
    · cases hq : pickG S l with
      | none => rw [hq] at h; cases h
      | some r =>
        rw [hq] at h
        injection h with h; injection h with h1 h2
        subst h2
        have := pick_len (l := l) (g := r.1) (l' := r.2) hq
        simp only [List.length_cons]; omega
theorem order_eq {ins : List Int} {gates : List PGate} : orderP ins gates = if looseP ins gates = false then (([], 2) : List PGate × Int) else if 200000 < litSum gates then ([], 3) else
    match ordGo gates.length (setOf ins) [] gates with | none => ([], 50) | some out => (out, 0) := by
  cases h : addIns noS ins with
  | none =>
    have e1 : orderP ins gates = ([], 2) := by unfold orderP; rw [h]
    have e2 : looseP ins gates = false := by unfold looseP; rw [h]
    rw [e1, if_pos e2]
  | some S =>
    have hS : S = setOf ins := by
      funext i
      rw [(addIns_set ins h).1 i]; simp [noS, setOf]
    cases h2 : addGs S gates with
    | none =>
      have e1 : orderP ins gates = ([], 2) := by unfold orderP; rw [h]; simp only; rw [h2]
      have e2 : looseP ins gates = false := by unfold looseP; rw [h]; simp only; rw [h2]
      rw [e1, if_pos e2]
    | some A =>
      cases h3 : strangeG A gates with
      | true =>
        have e1 : orderP ins gates = ([], 2) := by unfold orderP; rw [h]; simp only; rw [h2]; simp only; rw [if_pos h3]
        have e2 : looseP ins gates = false := by unfold looseP; rw [h]; simp only; rw [h2]; simp only; rw [h3]; rfl
        rw [e1, if_pos e2]
      | false =>
        have e2 : looseP ins gates = true := by unfold looseP; rw [h]; simp only; rw [h2]; simp only; rw [h3]; rfl
        rw [if_neg (by rw [e2]; simp), ← hS]
        unfold orderP
        rw [h]
        simp only
        rw [h2]
        simp only
        rw [if_neg (by rw [h3]; simp)]
        rfl
theorem loose_facts {ins : List Int} {gates : List PGate} (h : looseP ins gates = true) : (∀ v ∈ ins, 1 ≤ v ∧ v ≤ 65536) ∧ (∀ g ∈ gates, 1 ≤ g.var ∧ g.var ≤ 65536) ∧ ∀ g ∈ gates, ∀ l ∈ g.ins, 1 ≤ absN l := by
  unfold looseP at h
  cases h1 : addIns noS ins with
  | none => rw [h1] at h; cases h
  | some S =>
    rw [h1] at h
    simp only at h
    cases h2 : addGs S gates with
    | none => rw [h2] at h; cases h
    | some A =>
      rw [h2] at h
      simp only [Bool.not_eq_true'] at h
      have hS : SetR S := fun i hi => by
        rw [(addIns_set ins h1).1 i] at hi
        simp [noS] at hi
        have := (addIns_set ins h1).2 _ hi
        omega
      refine ⟨(addIns_set ins h1).2, addGs_good2 gates h2, fun g hg l hl => ?_⟩
      have hA := addGs_R gates hS h2
      unfold strangeG at h
      rw [List.any_eq_false] at h
      have h4 := h g hg
      rw [List.any_eq_true] at h4
      have h5 : A (absN l) = true := by
        cases hq : A (absN l) with
        | true => rfl
        | false => exact absurd ⟨l, hl, by rw [hq]; rfl⟩ h4
      exact (hA _ h5).1
set_option maxRecDepth 100000 in
set_option maxHeartbeats 2000000 in
theorem OrderR_any (va vg : Value) (ins : List Int) (gates : List PGate) (w : World) (ha : IntsAt w va ins) (hg0 : GatesAt w vg gates) (hl : litSum gates ≤ 1500) (hgl : gates.length ≤ 300) :
    Calls Try.prog 33 #[va, vg] w (GatesPost (orderP ins gates) w) := by
  obtain ⟨Aa, ca, rfl, hla, hca⟩ := ha.form
  obtain ⟨Ag, cg, rfl, hlg, hcg⟩ := hg0.form
  have CLo := loose_any (.slice Aa ins.length ca) (.slice Ag gates.length cg) ins gates w ha hg0
  go_enter Try.func33, Try.ntmps33
  cases hlo : looseP ins gates with
  | false =>
    rw [hlo] at CLo
    have e : orderP ins gates = ([], 2) := by rw [order_eq, if_pos hlo]
    have HE := hid e
    clear e hlo
    go_wp2_with (first | (go_at_call 75; refine CLo.mono ?_; rintro e w1 ⟨rfl, hB1⟩) | fail)
    go_ret2
    unfold GatesPost
    rw [HE.out]
    exact ⟨hB1, _, rfl, gates_none _, fun b h => none_own h⟩
  | true =>
    rw [hlo] at CLo
    obtain ⟨f1, f2, f3⟩ := loose_facts hlo
    have e : orderP ins gates = match ordGo gates.length (setOf ins) [] gates with | none => ([], 50) | some out => (out, 0) := by rw [order_eq, if_neg (by rw [hlo]; simp), if_neg (by omega)]
    have HE := hid e
    have HF := hid (And.intro f2 f3)
    clear e hlo f2 f3
    go_wp2_with (first | (go_at_call 75; refine CLo.mono ?_; rintro e w1 ⟨rfl, hB1⟩) | fail)
    clear CLo
    go_loopg [6, 7] gates.length (fun gg s6 s7 wr => ∃ (j : Nat), j ≤ gates.length ∧ gates.length - j ≤ gg ∧ s7 = .int .i64 (j : Int) ∧ s6 = .int .i64 (litSum (gates.take j) : Int) ∧ Below w.heap.size w wr)
    case atStart => exact ⟨0, Nat.zero_le _, by omega, rfl, rfl, hB1⟩
    case round =>
      clear hB1
      obtain ⟨j, hj, hg, rfl, rfl, hB⟩ := hrel
      by_cases hlt : j < gates.length
      · obtain ⟨g, hgx, hgm, hgd⟩ := nth hlt
        obtain ⟨bg, offg, vi, rfl, hc0, hc1, hc2, hi, -⟩ := (hg0.keep (keeps_below hB)).at_ j g hgx
        obtain ⟨Ai, ci, rfl, hli, hci⟩ := hi.form
        have hltz : (j : Int) < (gates.length : Int) := by omega
        have htk := litSum_take hgx
        have htl : litSum (gates.take (j + 1)) ≤ litSum gates := by
          have e : litSum gates = litSum (gates.take (j + 1)) + litSum (gates.drop (j + 1)) := by rw [← litSum_append, List.take_append_drop]
          omega
        obtain ⟨s, hs⟩ : ∃ s, litSum (gates.take j) = s := ⟨_, rfl⟩
        rw [hs] at htk ⊢
        have hw1' : IntKind.i64.wrap ((s : Int) + (g.ins.length : Int)) = ((s + g.ins.length : Nat) : Int) := by rw [IntWalk.i64_in _ (by omega)]; omega
        have HTK := hid htk
        clear hgx hgm hgd htk htl hs hi
        go_wp2_with fail
        go_roundg (gates.length - (j + 1))
        case measure => omega
        case rel => exact ⟨j + 1, by omega, by omega, by go_num, by rw [HTK.out]; rfl, hB⟩
      · have hltz : ¬ (j : Int) < (gates.length : Int) := by omega
        have e : gates.take j = gates := List.take_of_length_le (by omega)
        rw [e]
        have hz : ¬ (200000 : Int) < (litSum gates : Int) := by omega
        have CM := marks_any (.slice Aa ins.length ca) ins wr (ha.keep (keeps_below hB)) (fun x hx => by have := f1 x hx; omega)
        clear e
        go_wp2_with fail
        refine CM.mono ?_
        rintro e w2 ⟨b8, rfl, hS2, hB2, hb8⟩
        have hB02 := below_then hB hB.size hB2
        have hmk := make47r gates.length (by omega) w2
        have hR0 := row_madeT w2 gates.length
        have hB3 : Below w2.heap.size w2 (w2.alloc (.cells (madeCells #[Value.bool false] gates.length) 4)) := (Below.refl _ w2).alloc (Nat.le_refl _) _
        have hz3 : (w2.alloc (.cells (madeCells #[Value.bool false] gates.length) 4)).heap.size = w2.heap.size + 1 := World.size_alloc _ _
        revert hmk hR0 hB3 hz3
        generalize w2.alloc (.cells (madeCells #[Value.bool false] gates.length) 4) = w3
        intro hmk hR0 hB3 hz3
        have hS3 := hS2.below hB3
        have hB03 := below_then hB02 hB02.size hB3
        have hb82 := hS2.lt
        have hszB := hB.size
        clear CM hS2 hB02
        go_wp2_with fail
        go_loopg [10, 11, 12, 13, 14] gates.length (fun gg s10 _ _ _ _ wr => ∃ (S t : Nat → Bool) (out : List PGate) (Ao : Option Addr) (co : Nat), (remF t 0 gates).length ≤ gg ∧ s10 = .slice Ao out.length co ∧ out.length + (remF t 0 gates).length = gates.length ∧ Below w.heap.size w wr ∧ w3.heap.size ≤ wr.heap.size ∧
          SetAt wr b8 4 S ∧ RowT wr w2.heap.size gates.length t ∧ RowG w wr w3.heap.size (.slice Ao out.length co) out ∧ Rem (ordGo gates.length (setOf ins) [] gates) (ordGo (remF t 0 gates).length S out (remF t 0 gates)))
        case atStart => exact ⟨setOf ins, noS, [], none, 0, by rw [remF_none]; exact Nat.le_refl _, rfl, by rw [remF_none]; simp, hB03, Nat.le_refl _, hS3, hR0, ⟨[], rfl, World.ownsRow_nil _ _ _ _, fun e he => by cases he⟩, ⟨by rw [remF_none]⟩⟩
        case round =>
          clear hmk hR0 hS3 hB03 hB3
          obtain ⟨S, t, out, Ao, co, hg, rfl, hlen, hB, hs3, hS, hR, hRO, HA⟩ := hrel
          by_cases hlt : 0 < (remF t 0 gates).length
          · have hltz : (out.length : Int) < (gates.length : Int) := by omega
            go_wp2_with fail
            go_loopg [11, 12, 13, 14] gates.length (fun gg s11 s12 _ _ wr' => ∃ (i : Nat) (at' : Int), i ≤ gates.length ∧ gates.length - i ≤ gg ∧ s12 = .int .i64 (i : Int) ∧ s11 = .int .i64 at' ∧ wr' = wr ∧ Aside ((at' = -1 ∧ pickAt S t 0 gates = pickAt S t i (gates.drop i)) ∨ ∃ a : Nat, at' = (a : Int) ∧ pickAt S t 0 gates = some a))
            case atStart => exact ⟨0, -1, Nat.zero_le _, by omega, rfl, rfl, rfl, .inl ⟨rfl, rfl⟩⟩
            case round =>
              obtain ⟨i, at', hi', hgi, rfl, rfl, hw, hPK⟩ := hrel
              subst hw
              rcases hPK with ⟨rfl, hpk⟩ | ⟨a, rfl, hpk⟩
              · by_cases hlti : i < gates.length
                · obtain ⟨g, hgx, hgm, hgd⟩ := nth hlti
                  obtain ⟨bg, offg, vi, rfl, hc0, hc1, hc2, hi, -⟩ := (hg0.keep (keeps_below hB)).at_ i g hgx
                  obtain ⟨Ai, ci, rfl, hli, hci⟩ := hi.form
                  have hltzi : (i : Int) < (gates.length : Int) := by omega
                  have hti := hR.cell i hlti
                  have hpk2 : pickAt S t 0 gates = if (!t i && readyG S g) = true then some i else pickAt S t (i + 1) (gates.drop (i + 1)) := by rw [hpk, hgd]; rfl
                  have hf3 := HF.out.2 g hgm
                  obtain ⟨q, hq⟩ : ∃ q, (!t i && readyG S g) = q := ⟨_, rfl⟩
                  rw [hq] at hpk2
                  have HQ : Rem q (!t i && (g.ins.drop 0).all fun l => S (absN l)) := ⟨by rw [← hq, ready_all]; rfl⟩
                  have HP := hid hpk2
                  have HF3 := hid hf3
                  clear hgx hgm hgd hpk hpk2 hq hf3 hc0 hc1
                  generalize t i = ti at hti HQ
                  go_wp2_with fail
                  go_loopg [13, 14] g.ins.length (fun gg s13 s14 wr' => ∃ (k : Nat) (r : Bool), k ≤ g.ins.length ∧ g.ins.length - k ≤ gg ∧ s14 = .int .i64 (k : Int) ∧ s13 = .bool r ∧ wr' = wr ∧ Rem q (r && (g.ins.drop k).all fun l => S (absN l)))
                  case atStart => exact ⟨0, !ti, Nat.zero_le _, by omega, rfl, rfl, rfl, HQ⟩
                  case round =>
                    clear HQ
                    obtain ⟨k, r, hk, hgk, rfl, rfl, hw, HQ⟩ := hrel
                    subst hw
                    by_cases hltk : k < g.ins.length
                    · have hltzk : (k : Int) < (g.ins.length : Int) := by omega
                      cases r with
                      | false =>
                        have hq : q = false := by rw [HQ.out]; rfl
                        subst hq
                        go_wp2_with fail
                        go_roundg (gates.length - (i + 1))
                        case measure => omega
                        case rel => exact ⟨i + 1, -1, by omega, by omega, by go_num, rfl, rfl, .inl ⟨rfl, by have := HP.out; simpa using this⟩⟩
                      | true =>
                        obtain ⟨y, hy, hym, hyd⟩ := nth hltk
                        obtain ⟨b2, o2, rfl, hcy, hy64⟩ := hi.at_ k y hy
                        have hyp := HF3.out y hym
                        have CY := absR_any y wr hy64
                        rw [absR_eq hyp] at CY
                        have hqy := absN_lt y
                        have HQ2 : Rem q (S (absN y) && (g.ins.drop (k + 1)).all fun l => S (absN l)) := ⟨by rw [HQ.out, hyd, List.all_cons, Bool.true_and]⟩
                        obtain ⟨z, hz⟩ : ∃ z, absN y = z := ⟨_, rfl⟩
                        rw [hz] at CY hqy HQ2
                        have hcz := hS.cell z hqy
                        clear hy hym hyd hyp hy64 hz
                        go_wp2_with (first | (go_at_call 30; refine CY.mono ?_; rintro e w' ⟨rfl, hw⟩; obtain rfl : wr = w' := hw.symm) | fail)
                        go_roundg (g.ins.length - (k + 1))
                        case measure => omega
                        case rel => exact ⟨k + 1, S z, by omega, by omega, by go_num, rfl, rfl, HQ2⟩
                    · have hltzk : ¬ (k : Int) < (g.ins.length : Int) := by omega
                      have hq : q = r := by rw [HQ.out, List.drop_eq_nil_of_le (by omega)]; simp
                      subst hq
                      cases q with
                      | false =>
                        go_wp2_with fail
                        go_roundg (gates.length - (i + 1))
                        case measure => omega
                        case rel => exact ⟨i + 1, -1, by omega, by omega, by go_num, rfl, rfl, .inl ⟨rfl, by have := HP.out; simpa using this⟩⟩
                      | true =>
                        go_wp2_with fail
                        go_roundg (gates.length - (i + 1))
                        case measure => omega
                        case rel => exact ⟨i + 1, (i : Int), by omega, by omega, by go_num, rfl, rfl, .inr ⟨i, rfl, by have := HP.out; simpa using this⟩⟩
                · have hltzi : ¬ (i : Int) < (gates.length : Int) := by omega
                  have hpn : pickAt S t 0 gates = none := by rw [hpk, List.drop_eq_nil_of_le (by omega)]; rfl
                  have hpg : pickG S (remF t 0 gates) = none := by
                    rcases pick_at S t gates 0 with ⟨h1, h2⟩ | ⟨a, g, h1, _⟩
                    · exact h2
                    · rw [hpn] at h1; cases h1
                  obtain ⟨k, hk⟩ : ∃ k, (remF t 0 gates).length = k + 1 := ⟨(remF t 0 gates).length - 1, by omega⟩
                  have e : orderP ins gates = ([], 50) := by rw [HE.out, HA.out, ordGo_stop hpg hk]
                  have HE2 := hid e
                  clear hpn hpg hk e hpk
                  go_wp2_with fail
                  go_ret2
                  unfold GatesPost
                  rw [HE2.out]
                  exact ⟨hB, _, rfl, gates_none _, fun b h => none_own h⟩
              · obtain ⟨g, hgx, hta, hpg⟩ : ∃ g, gates[a]? = some g ∧ t a = false ∧ pickG S (remF t 0 gates) = some (g, remF (upd t a true) 0 gates) := by
                  rcases pick_at S t gates 0 with ⟨h1, h2⟩ | ⟨a', g, h1, _, h3, h4, h5⟩
                  · rw [hpk] at h1; cases h1
                  · rw [hpk] at h1
                    injection h1 with h1
                    subst h1
                    exact ⟨g, by simpa using h3, h4, h5⟩
                have hal : a < gates.length := (List.getElem?_eq_some_iff.1 hgx).1
                have hpl := pick_len hpg
                have hA2 := HA.out.trans (ordGo_step hpg hpl)
                obtain ⟨bg, offg, vi, rfl, q0, q1, q2, hi, hv64⟩ := hg0.at_ a g hgx
                obtain ⟨Ai, ci, rfl, hli, hci⟩ := hi.form
                obtain ⟨hg1, hg2⟩ := HF.out.1 g (List.mem_of_getElem? hgx)
                obtain ⟨m, hm⟩ : ∃ m : Nat, g.var = m := Int.eq_ofNat_of_zero_le (by omega)
                have hm1 : m < 65537 := by omega
                obtain ⟨eo, ho1, hO, ho3⟩ := hRO
                rw [hm] at q0
                have haz : (a : Int) < (gates.length : Int) := by omega
                have ha0 : decide ((a : Int) < 0) = false := decide_eq_false (by omega)
                have hta' := hR.cell a hal
                have htf := hR.free a
                have hB10 : Below w.heap.size w (wr.setCell ⟨w2.heap.size, a, none⟩ (.bool true)) := hB.setCell (p := ⟨w2.heap.size, a, none⟩) (by show w.heap.size ≤ w2.heap.size; omega) _
                have hS10 := hS.other (a := ⟨w2.heap.size, a, none⟩) (by show b8 ≠ w2.heap.size; omega) (.bool true)
                have hR10 := hR.store a true
                have k0 := keeps_below hB10 _ _ q0
                have hcm := hS10.cell m hm1
                have hfm := hS10.free m
                have hB11 := hB10.setCell (p := ⟨b8, m, none⟩) (by show w.heap.size ≤ b8; omega) (.bool true)
                have hS11 := hS10.store m true
                have hR11 := hR10.heap (heap_setCell_other (wr.setCell ⟨w2.heap.size, a, none⟩ (.bool true)) ⟨b8, m, none⟩ w2.heap.size (.bool true) (by show w2.heap.size ≠ b8; omega))
                have m0 := keeps_below hB11 _ _ q0
                have m1 := keeps_below hB11 _ _ q1
                have m2 := keeps_below hB11 _ _ q2
                have hG10 := grown_setCell wr ⟨w2.heap.size, a, none⟩ (.bool true)
                have hG11 := grown_setCell (wr.setCell ⟨w2.heap.size, a, none⟩ (.bool true)) ⟨b8, m, none⟩ (.bool true)
                have hO11 := (hO.kept hG10 (by
                  cases hq2 : (Value.slice Ao out.length co).ownBlock with
                  | none => exact .inl rfl
                  | some r => right; intro e; have h1 := (hO.lt r hq2).1; have h2 : r = w2.heap.size := Option.some.inj e; omega)).kept hG11 (by
                  cases hq2 : (Value.slice Ao out.length co).ownBlock with
                  | none => exact .inl rfl
                  | some r => right; intro e; have h1 := (hO.lt r hq2).1; have h2 : r = b8 := Option.some.inj e; omega)
                have hsz11 : ((wr.setCell ⟨w2.heap.size, a, none⟩ (.bool true)).setCell ⟨b8, m, none⟩ (.bool true)).heap.size = wr.heap.size := by simp
                have hbaseO : w3.heap.size ≤ ((wr.setCell ⟨w2.heap.size, a, none⟩ (.bool true)).setCell ⟨b8, m, none⟩ (.bool true)).heap.size := by rw [hsz11]; exact hs3
                have hol40 : (out.length + 1) * 40 ≤ 140737488355328 := by omega
                have HX := hid (And.intro hA2 (And.intro hpl (And.intro ho1 (And.intro ho3 (And.intro (And.intro hv64 hi) hm)))))
                clear hpk hgx hpg hA2 hpl hv64 ho1 ho3 hm hg1 hg2 q0 q1 q2 hG10 hG11 hta hi hO
                by_cases hlti : i < gates.length
                · have hltzi : (i : Int) < (gates.length : Int) := by omega
                  go_wp2_with (first | (at_builtin; refine append_one w3.heap.size rfl _ _ 23 70 (.agg #[.int .i64 0, .int .u8 0, .slice none 0 0]) 3 40 rfl Try.underlying23 info70 rfl (by decide) (by decide) (.slice Ao out.length co) out.length (gcells (eo.map (·.1))) #[.int .i64 (m : Int), .int .u8 g.kind, .slice Ai g.ins.length ci] rfl (by rw [hsz11]; rfl) rfl (by intro u hu; simp at hu; rcases hu with rfl | rfl | rfl <;> rfl) hO11 hbaseO hol40 ?_; intro g2 cap2 w12 hO12 hG12 hg12 hbg12 hlt12) | fail)
                  obtain ⟨hA2, hpl, ho1, ho3, hok, hmv⟩ := HX.out
                  have hB012 := hB11.grown hG12 hB11.size (fun r e => by have := (hO11.lt r e).1; omega)
                  have hs12 := hG12.size
                  have hno12 : ∀ r, r < w3.heap.size → (Value.slice Ao out.length co).ownBlock ≠ some r := fun r hr e => by have := (hO11.lt r e).1; omega
                  have hS12 := hS11.kept hG12 (fun e => hno12 _ (by omega) e)
                  have hR12 := hR11.heap (hG12.block _ hR11.lt (fun e => hno12 _ (by omega) e.symm))
                  go_roundg (remF (upd t a true) 0 gates).length
                  case measure => omega
                  case rel =>
                    refine ⟨upd S m true, upd t a true, out ++ [g], some ⟨g2, 0, none⟩, cap2, Nat.le_refl _, by simp, by rw [List.length_append]; simp; omega, hB012, by omega, hS12, hR12, ?_, ⟨by rw [hA2, hmv, Int.toNat_natCast]⟩⟩
                    refine ⟨eo ++ [(((m : Int), g.kind, Ai, g.ins.length, ci), g)], by rw [List.map_append, ho1]; rfl, ?_, fun e hee => ?_⟩
                    · have e2 : gcells ((eo ++ [(((m : Int), g.kind, Ai, g.ins.length, ci), g)]).map (·.1)) = gcells (eo.map (·.1)) ++ (#[Value.int .i64 (m : Int), .int .u8 g.kind, .slice Ai g.ins.length ci] : Array Value).toList := by
                        rw [List.map_append, gcells_append]; rfl
                      rw [e2]
                      simpa using hO12
                    · rcases List.mem_append.1 hee with hee | hee
                      · exact ho3 e hee
                      · rw [List.mem_singleton] at hee
                        subst hee
                        exact ⟨hmv.symm, rfl, hok.1, hok.2⟩
                · have hltzi : ¬ (i : Int) < (gates.length : Int) := by omega
                  go_wp2_with (first | (at_builtin; refine append_one w3.heap.size rfl _ _ 23 70 (.agg #[.int .i64 0, .int .u8 0, .slice none 0 0]) 3 40 rfl Try.underlying23 info70 rfl (by decide) (by decide) (.slice Ao out.length co) out.length (gcells (eo.map (·.1))) #[.int .i64 (m : Int), .int .u8 g.kind, .slice Ai g.ins.length ci] rfl (by rw [hsz11]; rfl) rfl (by intro u hu; simp at hu; rcases hu with rfl | rfl | rfl <;> rfl) hO11 hbaseO hol40 ?_; intro g2 cap2 w12 hO12 hG12 hg12 hbg12 hlt12) | fail)
                  obtain ⟨hA2, hpl, ho1, ho3, hok, hmv⟩ := HX.out
                  have hB012 := hB11.grown hG12 hB11.size (fun r e => by have := (hO11.lt r e).1; omega)
                  have hs12 := hG12.size
                  have hno12 : ∀ r, r < w3.heap.size → (Value.slice Ao out.length co).ownBlock ≠ some r := fun r hr e => by have := (hO11.lt r e).1; omega
                  have hS12 := hS11.kept hG12 (fun e => hno12 _ (by omega) e)
                  have hR12 := hR11.heap (hG12.block _ hR11.lt (fun e => hno12 _ (by omega) e.symm))
                  go_roundg (remF (upd t a true) 0 gates).length
                  case measure => omega
                  case rel =>
                    refine ⟨upd S m true, upd t a true, out ++ [g], some ⟨g2, 0, none⟩, cap2, Nat.le_refl _, by simp, by rw [List.length_append]; simp; omega, hB012, by omega, hS12, hR12, ?_, ⟨by rw [hA2, hmv, Int.toNat_natCast]⟩⟩
                    refine ⟨eo ++ [(((m : Int), g.kind, Ai, g.ins.length, ci), g)], by rw [List.map_append, ho1]; rfl, ?_, fun e hee => ?_⟩
                    · have e2 : gcells ((eo ++ [(((m : Int), g.kind, Ai, g.ins.length, ci), g)]).map (·.1)) = gcells (eo.map (·.1)) ++ (#[Value.int .i64 (m : Int), .int .u8 g.kind, .slice Ai g.ins.length ci] : Array Value).toList := by
                        rw [List.map_append, gcells_append]; rfl
                      rw [e2]
                      simpa using hO12
                    · rcases List.mem_append.1 hee with hee | hee
                      · exact ho3 e hee
                      · rw [List.mem_singleton] at hee
                        subst hee
                        exact ⟨hmv.symm, rfl, hok.1, hok.2⟩
          · have hltz : ¬ (out.length : Int) < (gates.length : Int) := by omega
            have hl0 : remF t 0 gates = [] := List.eq_nil_of_length_eq_zero (by omega)
            have e : orderP ins gates = (out, 0) := by rw [HE.out, HA.out, hl0]; rfl
            have HE2 := hid e
            have HRO := hid hRO
            clear hl0 e
            go_wp2_with fail
            go_ret2
            unfold GatesPost
            rw [HE2.out]
            exact ⟨hB, _, rfl, HRO.out.at (keeps_below hB), fun b h => by have := (HRO.out.lt h).1; omega⟩
end Go.Proofs.Ytnlobmepajakcaa
