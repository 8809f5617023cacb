/- What slices.Clone and slices.DeleteFunc of whole numbers do; the condition: Clone is given at least one element and at most 2^40. -/
import Derived.Test.YtnlobmepajakcaaLeafB
import Derived.Test.YtnlobmepajakcaaGather
import Derived.Lib.SliceRun
import Derived.IntWalk
set_option linter.unusedVariables false
set_option linter.unusedSimpArgs false
namespace Go.Proofs.Ytnlobmepajakcaa
open Go.RowKit Go.Shelf

theorem setCells_grown (g : Nat) : ∀ (vs : List Value) (o : Nat) (w : World), w.grownBy (w.setCells g o vs) (some g)
  | [], o, w => World.grownBy.refl _ _
  | v :: r, o, w => (grown_setCell w ⟨g, o, none⟩ v).trans (setCells_grown g r (o + 1) _)
theorem setCells_row (g : Nat) (e : TypeId) : ∀ (vs : List Value) (o : Nat) (w : World) (cur : Array Value), w.heap[g]? = some (.cells cur e (0, 0)) →
    ∃ cur', (w.setCells g o vs).heap[g]? = some (.cells cur' e (0, 0)) ∧ cur'.size = cur.size ∧ ∀ j, j < o → cur'[j]? = cur[j]?
  | [], o, w, cur, h => ⟨cur, h, rfl, fun _ _ => rfl⟩
  | v :: r, o, w, cur, h => by
    obtain ⟨cur', h1, h2, h3⟩ := setCells_row g e r (o + 1) (w.setCell ⟨g, o, none⟩ v) _ (heap_setCell_same w g o cur e v h)
    refine ⟨cur', h1, by rw [h2]; simp, fun j hj => ?_⟩
    rw [h3 j (by omega), Array.getElem?_setIfInBounds, if_neg (by omega)]
/-- A row cut to its first m elements, the rest having been cleared. -/
theorem own_cut {w : World} {base g n cap m : Nat} {e : TypeId} {xs : List Value} (h : w.ownsRow base e 1 (.slice (some ⟨g, 0, none⟩) n cap) n xs) (hm : m ≤ n) (vs : List Value) :
    (w.setCells g m vs).ownsRow base e 1 (.slice (some ⟨g, 0, none⟩) m cap) m (xs.take m) := by
  have hl := h.1
  rcases h.2 with ⟨h', _⟩ | ⟨g', cap', cur, h', hb, hh, h1, h2, h3, h4⟩
  · cases h'
  · cases h'
    obtain ⟨cur', k1, k2, k3⟩ := setCells_row g e vs m w cur hh
    refine ⟨by rw [List.length_take]; omega, .inr ⟨g, cap, cur', rfl, hb, k1, by omega, h2, by rw [k2]; exact h3, ?_⟩⟩
    rw [Nat.mul_one]
    rw [Nat.mul_one] at h4 hl
    rw [← h4]
    apply List.ext_getElem?
    intro j
    rw [List.getElem?_take, List.getElem?_take, List.getElem?_take]
    by_cases hj : j < m
    · rw [if_pos hj, if_pos hj, if_pos (by omega), Array.getElem?_toList, Array.getElem?_toList, k3 j hj]
    · rw [if_neg hj, if_neg hj]
theorem own_cell {w : World} {base g n cap : Nat} {xs : List Int} (h : w.ownsRow base 3 1 (.slice (some ⟨g, 0, none⟩) n cap) n (nums xs)) {j : Nat} {x : Int} (hx : xs[j]? = some x) :
    w.cell? ⟨g, j, none⟩ = some (.int .i64 x) ∧ w.frozen? ⟨g, j, none⟩ = false := by
  have hc := h.cells (g := g) rfl j (.int .i64 x) (by simp [nums, hx])
  have hadd : (⟨g, 0, none⟩ : Addr).add j = ⟨g, j, none⟩ := by unfold Addr.add; split <;> simp_all
  rw [hadd] at hc
  refine ⟨hc, ?_⟩
  rcases h.2 with ⟨h', _⟩ | ⟨g', cap', cur, h', _, hh, _⟩
  · cases h'
  · cases h'
    exact frozen_of_row w g j cur 3 hh
theorem own_set {w : World} {base g n cap : Nat} {xs : List Int} (h : w.ownsRow base 3 1 (.slice (some ⟨g, 0, none⟩) n cap) n (nums xs)) (i : Nat) (x : Int) :
    (w.setCell ⟨g, i, none⟩ (.int .i64 x)).ownsRow base 3 1 (.slice (some ⟨g, 0, none⟩) n cap) n (nums (xs.set i x)) := by
  have hs := (h.stored i (.int .i64 x)).1
  have he : (nums xs).set i (.int .i64 x) = nums (xs.set i x) := by simp [nums, List.map_set]
  rwa [he] at hs

theorem filter_take (q : Int → Bool) (xs : List Int) : ∀ (b : Int), (idxFrom q b xs = -1 ∧ 0 ≤ b → xs.filter (fun x => !q x) = xs) ∧
    (∀ i : Nat, i < xs.length → idxFrom q b xs = b + i → 0 ≤ b → xs.filter (fun x => !q x) = xs.take i ++ (xs.drop (i + 1)).filter (fun x => !q x)) ∧
    (0 ≤ b → idxFrom q b xs = -1 ∨ ∃ i : Nat, i < xs.length ∧ idxFrom q b xs = b + i) := by
  induction xs with
  | nil => intro b; exact ⟨fun _ => rfl, fun i h => by simp at h, fun _ => .inl rfl⟩
  | cons x xs ih =>
    intro b
    unfold idxFrom
    by_cases h : q x = true
    · simp only [if_pos h]
      refine ⟨fun h' => by omega, fun i hi he _ => ?_, fun _ => .inr ⟨0, by simp, by omega⟩⟩
      have : i = 0 := by omega
      subst this
      simp [List.filter_cons, h]
    · simp only [if_neg h]
      obtain ⟨h1, h2, h3⟩ := ih (b + 1)
      refine ⟨fun h' => ?_, fun i hi he hb => ?_, fun hb => ?_⟩
      · rw [List.filter_cons, if_pos (by simpa using h), h1 ⟨h'.1, by omega⟩]
      · rcases h3 (by omega) with h4 | ⟨j, hj, h4⟩
        · omega
        · obtain ⟨m, rfl⟩ : ∃ m, i = m + 1 := ⟨j, by omega⟩
          rw [List.filter_cons, if_pos (by simpa using h), h2 m (by simp at hi; omega) (by omega) (by omega)]
          simp
      · rcases h3 (by omega) with h4 | ⟨j, hj, h4⟩
        · exact .inl h4
        · exact .inr ⟨j + 1, by simp; omega, by rw [h4]; omega⟩

set_option maxHeartbeats 2000000 in
theorem clone_any (v : Value) (xs : List Int) (w : World) (h : IntsAt w v xs) (h0 : 0 < xs.length) (hn : xs.length ≤ 1099511627776) :
    Calls Try.prog 93 #[v] w fun e w' => Below w.heap.size w w' ∧ ∃ g cap, e = .returned (.slice (some ⟨g, 0, none⟩) xs.length cap) ∧ w'.ownsRow w.heap.size 3 1 (.slice (some ⟨g, 0, none⟩) xs.length cap) xs.length (nums xs) := by
  obtain ⟨A, c, rfl, hlc, hcm, hr⟩ := h
  obtain ⟨b, off, rfl, hc⟩ := hr h0
  have he := fun W => Lib.run_eql_slice_nil (P := Try.prog) W 26 3 (some ⟨b, off, none⟩) xs.length c 0 0 Try.underlying26
  simp only [Option.isNone_some] at he
  have hcell : ∀ j u, (nums xs)[j]? = some u → w.cell? ((⟨b, off, none⟩ : Addr).add j) = some u := by
    intro j u hu
    simp only [nums, List.getElem?_map] at hu
    obtain ⟨x, hx, rfl⟩ := Option.map_eq_some_iff.1 hu
    have h1 := (hc j x hx).1
    rw [Nat.mul_one] at h1
    have hadd : (⟨b, off, none⟩ : Addr).add j = ⟨b, off + j, none⟩ := by unfold Addr.add; split <;> simp_all
    rw [hadd]; exact h1
  have HC := hid hcell
  clear hc hr hcell
  obtain ⟨i0, hi, hzz⟩ := Option.map_eq_some_iff.1 info3
  simp only [Prod.mk.injEq] at hzz
  obtain ⟨hz0, hz1, hz2⟩ := hzz
  have HI := hid hi
  have H0 := hid hz0
  have H1 := hid hz1
  have H2 := hid hz2
  clear hi hz0 hz1 hz2
  obtain ⟨W1, hW1⟩ : ∃ W1, w.alloc (.cells #[] 3) = W1 := ⟨_, rfl⟩
  have hB1 : Below w.heap.size w W1 := by rw [← hW1]; exact (Below.refl _ _).alloc (Nat.le_refl _) _
  have hO1 : W1.ownsRow w.heap.size 3 1 (.slice (some ⟨w.heap.size, 0, none⟩) 0 0) 0 [] := by
    rw [← hW1]; exact World.ownsRow_made w #[] 0 (Nat.le_refl _) (by simp [maxLen]) (by simp)
  go_enter Try.func93, Try.ntmps93
  go_wp2_with (at_builtin; refine wpList_append_own_at _ rfl _ _ 26 rfl w.heap.size 3 i0 (.int .i64 0) 1 8 Try.underlying26 HI.out H0.out H1.out H2.out rfl (by decide) (.slice (some ⟨w.heap.size, 0, none⟩) 0 0) 0 [] rfl hO1 ⟨b, off, none⟩ xs.length c (nums xs) rfl (by simp [nums]) (fun j u hu => keeps_below hB1 _ _ (HC.out j u hu)) (by intro u hu; simp only [nums, List.mem_map] at hu; obtain ⟨q, _, rfl⟩ := hu; rfl) (by simp only [maxLen]; omega) (by omega) hB1.size ?_; intro v' w2 hO2 hG2 _ _)
  obtain ⟨g, cap, rfl, hbg, hlt, _⟩ := own_form hO2 (by omega)
  go_wp2_with fail
  go_ret
  rw [Nat.zero_add, List.nil_append] at hO2
  refine ⟨hB1.grown hG2 hB1.size (fun q e => by cases e; exact Nat.le_refl _), g, cap, ?_, hO2⟩
  rw [Nat.zero_add]
  rfl

set_option maxHeartbeats 4000000 in
theorem deleteFunc_any (p : Int → Bool) (f : Nat) (fs cb : Array Value) (eg : ∀ args w, (callFunc f args).run Try.prog w = .ok (.enter f args) w) (base g n cap : Nat) (xs : List Int) (w : World)
    (hO : w.ownsRow base 3 1 (.slice (some ⟨g, 0, none⟩) n cap) n (nums xs)) (hn : xs.length = n) (hxb : ∀ x ∈ xs, I64 x)
    (Inv : World → Prop) (hI : Inv w) (hInv : ∀ W W', Inv W → W.grownBy W' (some g) → Inv W')
    (hcall : ∀ x W, x ∈ xs → Inv W → Calls Try.prog f (fs ++ #[.int .i64 x] ++ cb) W (fun e W' => e = .returned (.bool (p x)) ∧ Below W.heap.size W W')) :
    Calls Try.prog 92 #[.slice (some ⟨g, 0, none⟩) n cap, .func (.func f) fs cb] w fun e w' => w.grownBy w' (some g) ∧ ∃ m, e = .returned (.slice (some ⟨g, 0, none⟩) m cap) ∧ m = (xs.filter (fun x => !p x)).length ∧
      w'.ownsRow base 3 1 (.slice (some ⟨g, 0, none⟩) m cap) m (nums (xs.filter (fun x => !p x))) := by
  have hcap : n ≤ cap ∧ n ≤ 9223372036854775807 := by
    obtain ⟨g', cap', e, _, _, h⟩ | h : (∃ g' cap', Value.slice (some ⟨g, 0, none⟩) n cap = .slice (some ⟨g', 0, none⟩) n cap' ∧ True ∧ True ∧ n ≤ cap') ∨ n = 0 := by
      rcases Nat.eq_zero_or_pos n with h | h
      · exact .inr h
      · obtain ⟨g', cap', e, h1, h2, h3⟩ := own_form hO h
        exact .inl ⟨g', cap', e, trivial, trivial, h3⟩
    · cases e
      refine ⟨h, ?_⟩
      rcases hO.2 with ⟨h', _⟩ | ⟨_, _, _, h', _, _, h1, h2, _⟩
      · cases h'
      · cases h'; simp only [maxLen] at h2; omega
    · subst h; exact ⟨by omega, by omega⟩
  obtain ⟨hnc, hnm⟩ := hcap
  have hcm : cap ≤ 9223372036854775807 := by
    rcases hO.2 with ⟨h', _⟩ | ⟨_, _, _, h', _, _, h1, h2, _⟩
    · cases h'
    · cases h'; simp only [maxLen] at h2; omega
  have hia := ints_of_own hO hxb hnm
  have C := indexFunc_ints p f fs cb eg (.slice (some ⟨g, 0, none⟩) n cap) xs w (fun W => Inv W ∧ Below w.heap.size w W) ⟨hI, Below.refl _ _⟩ (fun W hW => hia.keep (keeps_below hW.2))
    (fun x W hx hW => (hcall x W hx hW.1).mono fun e W' ⟨he, hB⟩ => ⟨he, hInv W W' hW.1 (grown_of_below hB _), below_then hW.2 hW.2.size hB⟩)
  obtain ⟨hf1, hf2, hf3⟩ := filter_take p xs 0
  rcases hf3 (by omega) with hm1 | ⟨i0, hi0, hm1⟩
  · have hF := hf1 ⟨hm1, by omega⟩
    rw [hm1] at C
    have HF := hid hF
    clear hf1 hf2 hf3 hm1 hF hcall hInv
    go_enter Try.func92, Try.ntmps92
    go_wp2_with fail
    refine C.mono ?_
    rintro e w1 ⟨rfl, -, hB1⟩
    go_wp2_with fail
    go_ret
    refine ⟨grown_of_below hB1 _, n, rfl, by rw [HF.out, hn], ?_⟩
    rw [HF.out]
    exact hO.kept (grown_of_below hB1 none) (by simp [Value.ownBlock])
  · have hF := hf2 i0 hi0 hm1 (by omega)
    rw [hm1, Int.zero_add] at C
    have HF := hid hF
    have HC := hid hcall
    have HV := hid hInv
    have hii : ((i0 : Int) == -1) = false := by rw [beq_eq_false_iff_ne]; omega
    clear hf1 hf2 hf3 hm1 hF hcall hInv
    go_enter Try.func92, Try.ntmps92
    go_wp2_with fail
    refine C.mono ?_
    rintro e w1 ⟨rfl, hI1, hB1⟩
    have hO1 : w1.ownsRow base 3 1 (.slice (some ⟨g, 0, none⟩) n cap) n (nums xs) := hO.kept (grown_of_below hB1 none) (by simp [Value.ownBlock])
    clear C hO hia
    go_wp2_with fail
    go_loopg [5, 6, 7] n (fun gg s5 s6 _ wr => ∃ (i j : Nat) (ys : List Int), s5 = .int .i64 i ∧ s6 = .int .i64 j ∧ i < j ∧ j ≤ n ∧ n - j ≤ gg ∧ ys.length = n ∧ wr.ownsRow base 3 1 (.slice (some ⟨g, 0, none⟩) n cap) n (nums ys) ∧ Inv wr ∧
      w.grownBy wr (some g) ∧ Aside (∀ x ∈ ys, x ∈ xs) ∧ Rem (xs.filter fun x => !p x) (ys.take i ++ (ys.drop j).filter fun x => !p x))
    case atStart => exact ⟨i0, i0 + 1, xs, rfl, by go_num, by omega, by omega, by omega, hn, hO1, hI1, grown_of_below hB1 _, (fun x hx => hx), ⟨HF.out⟩⟩
    case round =>
      clear hO1 hI1 hB1
      obtain ⟨i, j, ys, rfl, rfl, hij, hj, hgk, hyn, hOr, hIr, hG, hsub, HA⟩ := hrel
      by_cases hlt : j < n
      · obtain ⟨x, hx, hmem, hd⟩ := nth (show j < ys.length by omega)
        obtain ⟨hc0, hf0⟩ := own_cell hOr hx
        obtain ⟨y0, hy0, -, -⟩ := nth (show i < ys.length by omega)
        obtain ⟨hci, hfi⟩ := own_cell hOr hy0
        have hxm : x ∈ xs := hsub x hmem
        have Cx := HC.out x wr hxm hIr
        have hltz : (j : Int) < (n : Int) := by omega
        have hitz : (i : Int) < (n : Int) := by omega
        have HD := hid hd
        have HY := hid hyn
        have HS := hid hsub
        clear hd hx hy0 hmem hyn hsub
        cases hq : p x with
        | true =>
          rw [hq] at Cx
          have HQ := hid hq
          clear hq hci hfi
          go_wp2_with (go_at_fn f; refine Cx.mono ?_; rintro e w2 ⟨rfl, hB2⟩)
          go_roundg (n - (j + 1))
          case measure => omega
          case rel =>
            refine ⟨i, j + 1, ys, rfl, by go_num, by omega, by omega, by omega, HY.out, hOr.kept (grown_of_below hB2 none) (by simp [Value.ownBlock]), HV.out _ _ hIr (grown_of_below hB2 _), hG.trans (grown_of_below hB2 _), HS.out, ⟨?_⟩⟩
            rw [HA.out, HD.out, List.filter_cons, if_neg (by rw [HQ.out]; simp)]
        | false =>
          rw [hq] at Cx
          have HQ := hid hq
          clear hq
          go_wp2_with fail
          refine Cx.mono ?_
          rintro e w2 ⟨rfl, hB2⟩
          have hO2 : w2.ownsRow base 3 1 (.slice (some ⟨g, 0, none⟩) n cap) n (nums ys) := hOr.kept (grown_of_below hB2 none) (by simp [Value.ownBlock])
          have hci2 := keeps_below hB2 _ _ hci
          have hfi2 := (hB2.frozen (p := ⟨g, i, none⟩) (World.block_lt_of_cell? wr _ hci)).trans hfi
          have HO2 := hid hO2
          clear hc0 hf0 hci hfi Cx hOr hO2
          go_wp2_with fail
          go_roundg (n - (j + 1))
          case measure => omega
          case rel =>
            have hG2 := (grown_of_below hB2 (some g)).trans (grown_setCell w2 ⟨g, i, none⟩ (.int .i64 x))
            refine ⟨i + 1, j + 1, ys.set i x, by go_num, by go_num, by omega, by omega, by omega, by rw [List.length_set]; exact HY.out, own_set HO2.out i x, HV.out _ _ hIr hG2, hG.trans hG2, (fun y hy => ?_), ⟨?_⟩⟩
            · rcases List.mem_or_eq_of_mem_set hy with h | h
              · exact HS.out y h
              · rw [h]; exact hxm
            · rw [HA.out, HD.out, List.filter_cons, if_pos (by rw [HQ.out]; rfl), List.drop_set_of_lt (by omega), List.take_succ_eq_append_getElem (by rw [List.length_set, HY.out]; omega), List.take_set_of_le (Nat.le_refl i)]
              simp
      · have hltz : ¬ (j : Int) < (n : Int) := by omega
        have hjn : j = n := by omega
        have hE : (xs.filter fun x => !p x) = ys.take i := by rw [HA.out, List.drop_eq_nil_of_le (by omega)]; simp
        have hcl : ∀ ty, (Builtin.clear_ #[26] ty #[.slice (some ⟨g, i, none⟩) (n - i) (cap - i)]).run Try.prog wr = .ok (.tuple #[]) (wr.setCells g i (List.replicate (n - i) (.int .i64 0))) :=
          fun ty => Lib.run_clear_slice wr 26 3 ty _ Try.underlying26 Try.zeroValue3 rfl rfl g i _ _ (by omega)
            (fun t ht => by obtain ⟨y, hy, -, -⟩ := nth (show i + t < ys.length by omega); rw [(own_cell hOr hy).1]; rfl)
            (fun t ht => by obtain ⟨y, hy, -, -⟩ := nth (show i + t < ys.length by omega); exact (own_cell hOr hy).2)
        have hOc := own_cut hOr (show i ≤ n by omega) (List.replicate (n - i) (.int .i64 0))
        have hGc := hG.trans (setCells_grown g (List.replicate (n - i) (.int .i64 0)) i wr)
        obtain ⟨W, hW⟩ : ∃ W, wr.setCells g i (List.replicate (n - i) (.int .i64 0)) = W := ⟨_, rfl⟩
        rw [hW] at hcl hOc hGc
        have hi1 : (i : Int) ≤ (n : Int) := by omega
        have hi2 : (i : Int) ≤ (cap : Int) := by omega
        have hi3 : ¬ (cap = i) := by omega
        have HE := hid hE
        have HY := hid hyn
        have HW := hid hW
        clear hE hyn hsub hOr hW HA hjn
        go_wp2_with fail
        go_ret
        have hm : (nums ys).take i = nums (xs.filter fun x => !p x) := by rw [HE.out]; simp [nums, List.map_take]
        rw [hm] at hOc
        exact ⟨hGc, i, rfl, by rw [HE.out, List.length_take, HY.out]; omega, hOc⟩
end Go.Proofs.Ytnlobmepajakcaa
