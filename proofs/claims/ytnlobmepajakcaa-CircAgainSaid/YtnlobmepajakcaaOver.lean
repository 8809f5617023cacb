/- What the law's over and within do; the conditions: the lists read as data, together at most 100,000 long, and the variables lie from 1 to 65,536. -/
import Derived.Test.YtnlobmepajakcaaApp
import Derived.Test.YtnlobmepajakcaaSemM
import Derived.Deep.RegionHeld3
set_option linter.unusedVariables false
set_option linter.unusedSimpArgs false
namespace Go.Proofs.Ytnlobmepajakcaa
open Go.RowKit Go.Shelf

theorem insV_end : ∀ {out : List Int} {x : Int} {i : Nat}, (∀ y ∈ out.take i, absR y < absR x) → (∀ y, out[i]? = some y → absR x < absR y) → insV out x = out.take i ++ [x] ++ out.drop i
  | [], x, i, h, h2 => by simp [insV]
  | y :: ys, x, 0, h, h2 => by
    have := h2 y rfl
    unfold insV
    rw [if_neg (by omega), if_neg (by omega)]
    rfl
  | y :: ys, x, i + 1, h, h2 => by
    have h0 := h y (by simp)
    unfold insV
    rw [if_pos h0, insV_end (i := i) (fun z hz => h z (by simp [hz])) (fun z hz => h2 z (by simpa using hz))]
    simp
theorem insV_at : ∀ {out : List Int} {x y : Int} {i : Nat}, (∀ y ∈ out.take i, absR y < absR x) → out[i]? = some y → absR y = absR x → insV out x = out
  | [], x, y, i, h, h1, h2 => by simp at h1
  | z :: zs, x, y, 0, h, h1, h2 => by
    have : z = y := by simpa using h1
    subst this
    unfold insV
    rw [if_neg (by omega), if_pos h2]
  | z :: zs, x, y, i + 1, h, h1, h2 => by
    have h0 := h z (by simp)
    unfold insV
    rw [if_pos h0, insV_at (i := i) (fun z hz => h z (by simp [hz])) (by simpa using h1) h2]
theorem insV_len (out : List Int) (x : Int) : (insV out x).length ≤ out.length + 1 := by
  induction out with
  | nil => simp [insV]
  | cons y ys ih => unfold insV; split; simp; omega; split; simp; simp
theorem insV_sub {out : List Int} {x z : Int} (h : z ∈ insV out x) : z ∈ out ∨ z = x := by
  induction out with
  | nil => simp [insV] at h; exact .inr h
  | cons y ys ih =>
    unfold insV at h
    split at h
    · rcases List.mem_cons.1 h with rfl | h
      · exact .inl (.head _)
      · exact (ih h).imp (fun h => .tail _ h) id
    · split at h
      · exact .inl h
      · rcases List.mem_cons.1 h with rfl | h
        · exact .inr rfl
        · exact .inl h
set_option maxRecDepth 100000 in
set_option maxHeartbeats 4000000 in
theorem over_any (va vb : Value) (a b : List Int) (w : World) (ha : IntsAt w va a) (hb : IntsAt w vb b) (hlen : a.length + b.length ≤ 100000) :
    Calls Try.prog 22 #[va, vb] w fun e w' => ∃ v', e = .returned v' ∧ IntsAt w' v' (overP a b) ∧ Below w.heap.size w w' := by
  obtain ⟨Aa, ca, rfl, hla, hca⟩ := ha.form
  obtain ⟨Ab, cb, rfl, hlb, hcb⟩ := hb.form
  have hE := own_empty w w.heap.size (Nat.le_refl _)
  have hB0 : Below w.heap.size w (w.alloc (.cells #[] 3)) := (Below.refl _ w).alloc (Nat.le_refl _) _
  have hz0 : (w.alloc (.cells #[] 3)).heap.size = w.heap.size + 1 := World.size_alloc _ _
  obtain ⟨n, hn⟩ : ∃ n, b.length + a.length = n := ⟨_, rfl⟩
  go_enter Try.func22, Try.ntmps22
  go_wp2_with (first | (at_builtin; refine append_list w.heap.size rfl _ _ rfl (.slice (some ⟨w.heap.size, 0, none⟩) 0 0) 0 [] (.slice Ab b.length cb) b b.length rfl rfl hE (hb.keep (keeps_below hB0)) (by omega) hB0.size (by omega) ?_; intro A1 c1 w1 hO1 hG1 hF1; rw [List.nil_append] at hO1; have hB1 : Below w.heap.size w w1 := hB0.grown hG1 hB0.size (fun r e => (hE.lt r e).1)) | (at_builtin; refine append_list w.heap.size rfl _ _ rfl (.slice A1 b.length c1) b.length b (.slice Aa a.length ca) a n rfl rfl hO1 (ha.keep (keeps_below hB1)) hn hB1.size (by omega) ?_; intro A2 c2 w2 hO2 hG2 hF2))
  have hB2 : Below w.heap.size w w2 := hB1.grown hG2 hB1.size (fun r e => (hO1.lt r e).1)
  have hX : IntsAt w2 (.slice A2 n c2) (b ++ a) := ints_of_own2 hO2 (fun x hx => by
    rcases List.mem_append.1 hx with hx | hx
    · exact hb.i64 x hx
    · exact ha.i64 x hx)
  obtain ⟨xs, hxs⟩ : ∃ xs, b ++ a = xs := ⟨_, rfl⟩
  have hP : overP a b = xs.foldl insV [] := by unfold overP; rw [hxs]
  have hnl : xs.length = n := by rw [← hxs, List.length_append]; exact hn
  rw [hxs] at hX
  have HP := hid hP
  have hn2 : n ≤ 100000 := by omega
  clear hO2 hG2 hF2 hO1 hB1 hP hxs hn ha hb hla hca hlb hcb hlen hE hB0 hz0 hG1 hF1
  go_wp2_with fail
  go_loopg [5, 7, 8, 9, 16] n (fun gg s5 _ _ _ s16 wr => ∃ (j : Nat) (out : List Int) (Ao : Option Addr) (co : Nat), j ≤ n ∧ n - j ≤ gg ∧ s16 = .int .i64 j ∧ s5 = .slice Ao out.length co ∧ Below w2.heap.size w2 wr ∧ IntsAt wr (.slice Ao out.length co) out ∧ out.length ≤ j ∧ Aside (xs.foldl insV [] = (xs.drop j).foldl insV out))
  case atStart => exact ⟨0, [], none, 0, Nat.zero_le _, by omega, rfl, rfl, Below.refl _ _, ints_none _, Nat.le_refl _, rfl⟩
  case round =>
    obtain ⟨j, out, Ao, co, hj, hg, rfl, rfl, hB, hO, hol, hT⟩ := hrel
    by_cases hlt : j < n
    · obtain ⟨x, hx, hxm, hd⟩ := nth (show j < xs.length by omega)
      obtain ⟨bx, ox, rfl, hcx, hx64⟩ := (hX.keep (keeps_below hB)).at_ j x hx
      have hltz : (j : Int) < (n : Int) := by omega
      have HT : Hid (xs.foldl insV [] = (xs.drop (j + 1)).foldl insV (insV out x)) := by
        have := hT
        rw [hd] at this
        exact this
      have hco : out.length ≤ co ∧ co ≤ 9223372036854775807 := by
        obtain ⟨A', c', e, h1, h2, _⟩ := hO
        cases e; exact ⟨h1, h2⟩
      clear hT hx hxm hd
      go_wp2_with (go_at_call 30; refine (absR_any _ _ hx64).mono ?_; rintro e W5 ⟨rfl, rfl⟩)
      clear hcx
      go_loopg [9] out.length (fun gg s9 wr => ∃ i : Nat, i ≤ out.length ∧ out.length - i ≤ gg ∧ s9 = .int .i64 i ∧ wr = W5 ∧ Aside (∀ y ∈ out.take i, absR y < absR x))
      case atStart => exact ⟨0, Nat.zero_le _, by omega, rfl, rfl, fun y hy => by simp at hy⟩
      case round =>
        obtain ⟨i, hi, hgi, rfl, rfl, hall⟩ := hrel
        by_cases hlti : i < out.length
        · obtain ⟨y, hy, hym, -⟩ := nth hlti
          obtain ⟨by', oy, rfl, hcy, hy64⟩ := hO.at_ i y hy
          have hltzi : (i : Int) < (out.length : Int) := by omega
          by_cases hc : absR y < absR x
          · have hz : decide (absR y < absR x) = true := decide_eq_true hc
            have HC := hid (And.intro hc (And.intro hy hall))
            clear hc hy hym hall
            go_wp2_with (go_at_call 30; refine (absR_any _ _ hy64).mono ?_; rintro e w' ⟨rfl, rfl⟩)
            go_roundg (out.length - (i + 1))
            case measure => omega
            case rel =>
              refine ⟨i + 1, by omega, by omega, by go_num, rfl, fun z hz => ?_⟩
              rw [take_snoc HC.out.2.1, List.mem_append, List.mem_singleton] at hz
              rcases hz with hz | rfl
              · exact HC.out.2.2 z hz
              · exact HC.out.1
          · have hz : decide (absR y < absR x) = false := decide_eq_false hc
            by_cases he : absR y = absR x
            · have hz2 : (absR y == absR x) = true := by simp [he]
              have HE := hid (insV_at hall hy he)
              clear hc he hy hym hall
              have hol2 := insV_len out x
              go_wp2_with (go_at_call 30; refine (absR_any _ _ hy64).mono ?_; rintro e w' ⟨rfl, rfl⟩)
              go_roundg (n - (j + 1))
              case measure => omega
              case rel => exact ⟨j + 1, out, _, co, by omega, by omega, by go_num, rfl, hB, hO, by omega, by have := HT.out; rw [HE.out] at this; exact this⟩
            · have hz2 : (absR y == absR x) = false := by simp [he]
              have hi2 := insV_end (x := x) hall (fun y' hy' => by rw [hy] at hy'; injection hy' with e; subst e; omega)
              have HI := hid hi2
              obtain ⟨A', hsl, hsI⟩ := slice_from (some ⟨by', oy, none⟩) out.length co i hi
              have hto := run_to (some ⟨by', oy, none⟩) out.length co i (by omega)
              have HC := hid (And.intro hc he)
              clear hi2 hall hc he hy hym
              have hb0 := hB.size
              have hb2 := hB2.size
              have hBa : Below wr.heap.size wr (wr.alloc (.cells #[] 3)) := (Below.refl _ wr).alloc (Nat.le_refl _) _
              have hBx : Below wr.heap.size wr (wr.alloc (.cells #[.int .i64 x] 3)) := (Below.refl _ wr).alloc (Nat.le_refl _) _
              have hBb : Below wr.heap.size wr ((wr.alloc (.cells #[] 3)).alloc (.cells #[.int .i64 x] 3)) := hBa.alloc hBa.size _
              have hBc : Below wr.heap.size wr ((wr.alloc (.cells #[.int .i64 x] 3)).alloc (.cells #[] 3)) := hBx.alloc hBx.size _
              have hOa := own_empty wr wr.heap.size (Nat.le_refl _)
              have hOb := hOa.alloc (.cells #[.int .i64 x] 3)
              have hOc := own_empty (wr.alloc (.cells #[.int .i64 x] 3)) wr.heap.size hBx.size
              have hz1 : (wr.alloc (.cells #[] 3)).heap.size = wr.heap.size + 1 := World.size_alloc _ _
              have hz2 : (wr.alloc (.cells #[.int .i64 x] 3)).heap.size = wr.heap.size + 1 := World.size_alloc _ _
              rw [hz2] at hOc
              have hrb : ((wr.alloc (.cells #[] 3)).alloc (.cells #[.int .i64 x] 3)).drew.heap[wr.heap.size + 1]? = some (.cells #[.int .i64 x] 3 (0, 0)) := by rw [← hz1]; exact heap_alloc_new (wr.alloc (.cells #[] 3)) _
              have hrc : ((wr.alloc (.cells #[.int .i64 x] 3)).alloc (.cells #[] 3)).drew.heap[wr.heap.size]? = some (.cells #[.int .i64 x] 3 (0, 0)) := by show ((wr.alloc (.cells #[.int .i64 x] 3)).alloc (.cells #[] 3)).heap[wr.heap.size]? = _; rw [Below.heap_alloc _ _ _ (by omega)]; exact heap_alloc_new _ _
              have hYt : ∀ W, Below wr.heap.size wr W → IntsAt W (.slice (some ⟨by', oy, none⟩) i co) (out.take i) := fun W hW => ints_take (hO.keep (keeps_below hW)) hi
              have hYd : ∀ W, Below wr.heap.size wr W → IntsAt W (.slice A' (out.length - i) (co - i)) (out.drop i) := fun W hW => hsI W out (hO.keep (keeps_below hW))
              have htl : 0 + (out.take i).length = i := by rw [List.length_take]; omega
              have hdl : i + 1 + (out.drop i).length = out.length + 1 := by rw [List.length_drop]; omega
              have hol3 : (out.length + 1) * 8 ≤ 140737488355328 := by omega
              have hol4 : (i + 1) * 8 ≤ 140737488355328 := by omega
              have hol5 : i * 8 ≤ 140737488355328 := by omega
              have hYn : ∀ W : World, IntsAt (W.alloc (.cells #[.int .i64 x] 3)) (.slice (some ⟨W.heap.size, 0, none⟩) 1 1) [x] := fun W => ints_one (heap_alloc_new W _) hx64
              have HW := hid (And.intro hz1 hz2)
              go_wp2_with (go_at_call 30; refine (absR_any _ _ hy64).mono ?_; rintro e w' ⟨rfl, hw⟩; obtain rfl : wr = w' := hw.symm)
              clear hz1 hz2
              go_region_held3 (fun w' => Below wr.heap.size wr w') (first | exact (Below.refl _ _).drew | assumption | exact Below.drew (by assumption) | exact Below.alloc (by assumption) (Below.size (by assumption)) _ | exact Below.drew (Below.alloc (by assumption) (Below.size (by assumption)) _))
                (first
                  | (refine step_app wr.heap.size rfl _ _ (by rfl) (.slice (some ⟨wr.heap.size, 0, none⟩) 0 0) 0 [] (.slice (some ⟨by', oy, none⟩) i co) (out.take i) i (by rfl) (by rfl) (by exact hOa) (by exact hYt _ hBa.drew) htl (by exact hBa.size) hol5 ?_; intro A1 c1 w1 hO1 hG1 hF1; rw [List.nil_append] at hO1; have hB1 : Below wr.heap.size wr w1 := hBa.drew.grown hG1 hBa.size (fun r e => (hOa.lt r e).1); have hOx := hO1.alloc (.cells #[.int .i64 x] 3); have hYx := hYn w1; have hBxx : Below wr.heap.size wr (w1.alloc (.cells #[.int .i64 x] 3)) := hB1.alloc hB1.size _)
                  | (refine step_app wr.heap.size rfl _ _ (by rfl) (.slice (some ⟨wr.heap.size, 0, none⟩) 0 0) 0 [] (.slice (some ⟨by', oy, none⟩) i co) (out.take i) i (by rfl) (by rfl) (by exact hOb) (by exact hYt _ hBb.drew) htl (by exact hBb.size) hol5 ?_; intro A1 c1 w1 hO1 hG1 hF1; rw [List.nil_append] at hO1; have hB1 : Below wr.heap.size wr w1 := hBb.drew.grown hG1 hBb.size (fun r e => (hOb.lt r e).1); have hOx := hO1; have hYx : IntsAt w1 (.slice (some ⟨wr.heap.size + 1, 0, none⟩) 1 1) [x] := ints_one (row_grown hrb hG1 (by intro e; have e' : wr.heap.size = wr.heap.size + 1 := Option.some.inj e; omega)) hx64; have hBxx := hB1)
                  | (refine step_app wr.heap.size rfl _ _ (by rfl) (.slice (some ⟨wr.heap.size + 1, 0, none⟩) 0 0) 0 [] (.slice (some ⟨by', oy, none⟩) i co) (out.take i) i (by rfl) (by rfl) (by exact hOc) (by exact hYt _ hBc.drew) htl (by exact hBc.size) hol5 ?_; intro A1 c1 w1 hO1 hG1 hF1; rw [List.nil_append] at hO1; have hB1 : Below wr.heap.size wr w1 := hBc.drew.grown hG1 hBc.size (fun r e => (hOc.lt r e).1); have hOx := hO1; have hYx : IntsAt w1 (.slice (some ⟨wr.heap.size, 0, none⟩) 1 1) [x] := ints_one (row_grown hrc hG1 (by intro e; have e' : wr.heap.size + 1 = wr.heap.size := Option.some.inj e; omega)) hx64; have hBxx := hB1)
                  | (refine step_app wr.heap.size rfl _ _ (by rfl) (.slice A1 i c1) i (out.take i) (.slice (some ⟨w1.heap.size, 0, none⟩) 1 1) [x] (i + 1) (by rfl) (by rfl) (by exact hOx) (by exact hYx) (by rfl) (by exact hBxx.size) hol4 ?_; intro A2 c2 w3 hO3 hG3 hF3; have hB3 : Below wr.heap.size wr w3 := hBxx.grown hG3 hBxx.size (fun r e => (hOx.lt r e).1))
                  | (refine step_app wr.heap.size rfl _ _ (by rfl) (.slice A1 i c1) i (out.take i) (.slice (some ⟨wr.heap.size + 1, 0, none⟩) 1 1) [x] (i + 1) (by rfl) (by rfl) (by exact hOx) (by exact hYx) (by rfl) (by exact hBxx.size) hol4 ?_; intro A2 c2 w3 hO3 hG3 hF3; have hB3 : Below wr.heap.size wr w3 := hBxx.grown hG3 hBxx.size (fun r e => (hOx.lt r e).1))
                  | (refine step_app wr.heap.size rfl _ _ (by rfl) (.slice A1 i c1) i (out.take i) (.slice (some ⟨wr.heap.size, 0, none⟩) 1 1) [x] (i + 1) (by rfl) (by rfl) (by exact hOx) (by exact hYx) (by rfl) (by exact hBxx.size) hol4 ?_; intro A2 c2 w3 hO3 hG3 hF3; have hB3 : Below wr.heap.size wr w3 := hBxx.grown hG3 hBxx.size (fun r e => (hOx.lt r e).1))
                  | (refine step_app wr.heap.size rfl _ _ (by rfl) (.slice A2 (i + 1) c2) (i + 1) (out.take i ++ [x]) (.slice A' (out.length - i) (co - i)) (out.drop i) (out.length + 1) (by rfl) (by rfl) (by exact hO3) (by exact hYd _ hB3) hdl (by exact hB3.size) hol3 ?_; intro A3 c3 w4 hO4 hG4 hF4; have hB4 : Below wr.heap.size wr w4 := hB3.grown hG4 hB3.size (fun r e => (hO3.lt r e).1))
                  | fail)
              all_goals
                rw [← HI.out] at hO4
                have hil : (insV out x).length = out.length + 1 := by rw [HI.out]; simp; omega
                have hI4 : IntsAt w4 (.slice A3 (out.length + 1) c3) (insV out x) := ints_of_own2 hO4 (fun z hz => (insV_sub hz).elim (hO.i64 z) (fun e => e ▸ hx64))
                have hB24 := below_then hB hB.size hB4
                rw [← hil] at hI4
                have HIL := hid hil
                clear hO4 hil
                go_wp2_with fail
                go_roundg (n - (j + 1))
                case measure => omega
                case rel => exact ⟨j + 1, insV out x, A3, c3, by omega, by omega, by go_num, by rw [HIL.out], hB24, hI4, by rw [HIL.out]; omega, HT.out⟩
        · have hltzi : ¬ (i : Int) < (out.length : Int) := by omega
          have hio : i = out.length := by omega
          have hi2 := insV_end (x := x) hall (fun y hy => by rw [List.getElem?_eq_none (by omega)] at hy; cases hy)
          have HI := hid hi2
          have HIO := hid hio
          obtain ⟨A', hsl, hsI⟩ := slice_from Ao out.length co i hi
          have hto := run_to Ao out.length co i (by omega)
          clear hi2 hall hio
          have hb0 := hB.size
          have hb2 := hB2.size
          have hBa : Below wr.heap.size wr (wr.alloc (.cells #[] 3)) := (Below.refl _ wr).alloc (Nat.le_refl _) _
          have hBx : Below wr.heap.size wr (wr.alloc (.cells #[.int .i64 x] 3)) := (Below.refl _ wr).alloc (Nat.le_refl _) _
          have hBb : Below wr.heap.size wr ((wr.alloc (.cells #[] 3)).alloc (.cells #[.int .i64 x] 3)) := hBa.alloc hBa.size _
          have hBc : Below wr.heap.size wr ((wr.alloc (.cells #[.int .i64 x] 3)).alloc (.cells #[] 3)) := hBx.alloc hBx.size _
          have hOa := own_empty wr wr.heap.size (Nat.le_refl _)
          have hOb := hOa.alloc (.cells #[.int .i64 x] 3)
          have hOc := own_empty (wr.alloc (.cells #[.int .i64 x] 3)) wr.heap.size hBx.size
          have hz1 : (wr.alloc (.cells #[] 3)).heap.size = wr.heap.size + 1 := World.size_alloc _ _
          have hz2 : (wr.alloc (.cells #[.int .i64 x] 3)).heap.size = wr.heap.size + 1 := World.size_alloc _ _
          rw [hz2] at hOc
          have hrb : ((wr.alloc (.cells #[] 3)).alloc (.cells #[.int .i64 x] 3)).drew.heap[wr.heap.size + 1]? = some (.cells #[.int .i64 x] 3 (0, 0)) := by rw [← hz1]; exact heap_alloc_new (wr.alloc (.cells #[] 3)) _
          have hrc : ((wr.alloc (.cells #[.int .i64 x] 3)).alloc (.cells #[] 3)).drew.heap[wr.heap.size]? = some (.cells #[.int .i64 x] 3 (0, 0)) := by show ((wr.alloc (.cells #[.int .i64 x] 3)).alloc (.cells #[] 3)).heap[wr.heap.size]? = _; rw [Below.heap_alloc _ _ _ (by omega)]; exact heap_alloc_new _ _
          have hYt : ∀ W, Below wr.heap.size wr W → IntsAt W (.slice Ao i co) (out.take i) := fun W hW => ints_take (hO.keep (keeps_below hW)) hi
          have hYd : ∀ W, Below wr.heap.size wr W → IntsAt W (.slice A' (out.length - i) (co - i)) (out.drop i) := fun W hW => hsI W out (hO.keep (keeps_below hW))
          have htl : 0 + (out.take i).length = i := by rw [List.length_take]; omega
          have hdl : i + 1 + (out.drop i).length = out.length + 1 := by rw [List.length_drop]; omega
          have hol3 : (out.length + 1) * 8 ≤ 140737488355328 := by omega
          have hol4 : (i + 1) * 8 ≤ 140737488355328 := by omega
          have hol5 : i * 8 ≤ 140737488355328 := by omega
          have hYn : ∀ W : World, IntsAt (W.alloc (.cells #[.int .i64 x] 3)) (.slice (some ⟨W.heap.size, 0, none⟩) 1 1) [x] := fun W => ints_one (heap_alloc_new W _) hx64
          have HW := hid (And.intro hz1 hz2)
          go_wp2_with fail
          clear hz1 hz2
          go_region_held3 (fun w' => Below wr.heap.size wr w') (first | exact (Below.refl _ _).drew | assumption | exact Below.drew (by assumption) | exact Below.alloc (by assumption) (Below.size (by assumption)) _ | exact Below.drew (Below.alloc (by assumption) (Below.size (by assumption)) _))
            (first
              | (refine step_app wr.heap.size rfl _ _ (by rfl) (.slice (some ⟨wr.heap.size, 0, none⟩) 0 0) 0 [] (.slice Ao i co) (out.take i) i (by rfl) (by rfl) (by exact hOa) (by exact hYt _ hBa.drew) htl (by exact hBa.size) hol5 ?_; intro A1 c1 w1 hO1 hG1 hF1; rw [List.nil_append] at hO1; have hB1 : Below wr.heap.size wr w1 := hBa.drew.grown hG1 hBa.size (fun r e => (hOa.lt r e).1); have hOx := hO1.alloc (.cells #[.int .i64 x] 3); have hYx := hYn w1; have hBxx : Below wr.heap.size wr (w1.alloc (.cells #[.int .i64 x] 3)) := hB1.alloc hB1.size _)
              | (refine step_app wr.heap.size rfl _ _ (by rfl) (.slice (some ⟨wr.heap.size, 0, none⟩) 0 0) 0 [] (.slice Ao i co) (out.take i) i (by rfl) (by rfl) (by exact hOb) (by exact hYt _ hBb.drew) htl (by exact hBb.size) hol5 ?_; intro A1 c1 w1 hO1 hG1 hF1; rw [List.nil_append] at hO1; have hB1 : Below wr.heap.size wr w1 := hBb.drew.grown hG1 hBb.size (fun r e => (hOb.lt r e).1); have hOx := hO1; have hYx : IntsAt w1 (.slice (some ⟨wr.heap.size + 1, 0, none⟩) 1 1) [x] := ints_one (row_grown hrb hG1 (by intro e; have e' : wr.heap.size = wr.heap.size + 1 := Option.some.inj e; omega)) hx64; have hBxx := hB1)
              | (refine step_app wr.heap.size rfl _ _ (by rfl) (.slice (some ⟨wr.heap.size + 1, 0, none⟩) 0 0) 0 [] (.slice Ao i co) (out.take i) i (by rfl) (by rfl) (by exact hOc) (by exact hYt _ hBc.drew) htl (by exact hBc.size) hol5 ?_; intro A1 c1 w1 hO1 hG1 hF1; rw [List.nil_append] at hO1; have hB1 : Below wr.heap.size wr w1 := hBc.drew.grown hG1 hBc.size (fun r e => (hOc.lt r e).1); have hOx := hO1; have hYx : IntsAt w1 (.slice (some ⟨wr.heap.size, 0, none⟩) 1 1) [x] := ints_one (row_grown hrc hG1 (by intro e; have e' : wr.heap.size + 1 = wr.heap.size := Option.some.inj e; omega)) hx64; have hBxx := hB1)
              | (refine step_app wr.heap.size rfl _ _ (by rfl) (.slice A1 i c1) i (out.take i) (.slice (some ⟨w1.heap.size, 0, none⟩) 1 1) [x] (i + 1) (by rfl) (by rfl) (by exact hOx) (by exact hYx) (by rfl) (by exact hBxx.size) hol4 ?_; intro A2 c2 w3 hO3 hG3 hF3; have hB3 : Below wr.heap.size wr w3 := hBxx.grown hG3 hBxx.size (fun r e => (hOx.lt r e).1))
              | (refine step_app wr.heap.size rfl _ _ (by rfl) (.slice A1 i c1) i (out.take i) (.slice (some ⟨wr.heap.size + 1, 0, none⟩) 1 1) [x] (i + 1) (by rfl) (by rfl) (by exact hOx) (by exact hYx) (by rfl) (by exact hBxx.size) hol4 ?_; intro A2 c2 w3 hO3 hG3 hF3; have hB3 : Below wr.heap.size wr w3 := hBxx.grown hG3 hBxx.size (fun r e => (hOx.lt r e).1))
              | (refine step_app wr.heap.size rfl _ _ (by rfl) (.slice A1 i c1) i (out.take i) (.slice (some ⟨wr.heap.size, 0, none⟩) 1 1) [x] (i + 1) (by rfl) (by rfl) (by exact hOx) (by exact hYx) (by rfl) (by exact hBxx.size) hol4 ?_; intro A2 c2 w3 hO3 hG3 hF3; have hB3 : Below wr.heap.size wr w3 := hBxx.grown hG3 hBxx.size (fun r e => (hOx.lt r e).1))
              | (refine step_app wr.heap.size rfl _ _ (by rfl) (.slice A2 (i + 1) c2) (i + 1) (out.take i ++ [x]) (.slice A' (out.length - i) (co - i)) (out.drop i) (out.length + 1) (by rfl) (by rfl) (by exact hO3) (by exact hYd _ hB3) hdl (by exact hB3.size) hol3 ?_; intro A3 c3 w4 hO4 hG4 hF4; have hB4 : Below wr.heap.size wr w4 := hB3.grown hG4 hB3.size (fun r e => (hO3.lt r e).1))
              | fail)
          all_goals
            rw [← HI.out] at hO4
            have hil : (insV out x).length = out.length + 1 := by rw [HI.out]; simp; omega
            have hI4 : IntsAt w4 (.slice A3 (out.length + 1) c3) (insV out x) := ints_of_own2 hO4 (fun z hz => (insV_sub hz).elim (hO.i64 z) (fun e => e ▸ hx64))
            have hB24 := below_then hB hB.size hB4
            rw [← hil] at hI4
            have HIL := hid hil
            clear hO4 hil
            go_wp2_with fail
            go_roundg (n - (j + 1))
            case measure => omega
            case rel => exact ⟨j + 1, insV out x, A3, c3, by omega, by omega, by go_num, by rw [HIL.out], hB24, hI4, by rw [HIL.out]; omega, HT.out⟩
    · have hltz : ¬ (j : Int) < (n : Int) := by omega
      have e : xs.foldl insV [] = out := by
        have := hT
        rw [List.drop_eq_nil_of_le (by omega)] at this
        exact this
      have HE := hid e
      clear e hT
      go_wp2_with fail
      go_ret
      exact ⟨_, rfl, by rw [HP.out, HE.out]; exact hO, below_then hB2 hB2.size hB⟩
theorem in_abs {x : Int} {vars : List Int} (h64 : I64 x) (hr : ∀ v ∈ vars, 1 ≤ v ∧ v ≤ 65536) : (decide (x ∈ vars) || decide (IntKind.i64.wrap (-x) ∈ vars)) = decide (absI x ∈ vars) := by
  unfold I64 at h64
  rw [Bool.eq_iff_iff, Bool.or_eq_true, decide_eq_true_eq, decide_eq_true_eq, decide_eq_true_eq]
  have key : ∀ v ∈ vars, (v = x ∨ v = IntKind.i64.wrap (-x)) ↔ v = absI x := fun v hv => by
    obtain ⟨h1, h2⟩ := hr v hv
    by_cases hm : x = -9223372036854775808
    · subst hm
      have e : IntKind.i64.wrap (-(-9223372036854775808)) = -9223372036854775808 := by decide +kernel
      rw [e]
      unfold absI
      constructor <;> intro h <;> omega
    · have e : IntKind.i64.wrap (-x) = -x := IntWalk.i64_in _ (by omega)
      rw [e]
      unfold absI
      constructor <;> intro h <;> omega
  constructor
  · rintro (h | h)
    · rw [← (key _ h).1 (.inl rfl)]; exact h
    · rw [← (key _ h).1 (.inr rfl)]; exact h
  · intro h
    rcases (key _ h).2 rfl with e | e
    · left; rw [← e]; exact h
    · right; rw [← e]; exact h
set_option maxHeartbeats 1000000 in
theorem within_any (va vv : Value) (a vars : List Int) (w : World) (ha : IntsAt w va a) (hv : IntsAt w vv vars) (hr : ∀ v ∈ vars, 1 ≤ v ∧ v ≤ 65536) (hlen : a.length ≤ 100000) :
    Calls Try.prog 20 #[va, vv] w fun e w' => ∃ v', e = .returned v' ∧ IntsAt w' v' (withinP a vars) ∧ Below w.heap.size w w' := by
  obtain ⟨Aa, ca, rfl, hla, hca⟩ := ha.form
  obtain ⟨Av, cv, rfl, hlv, hcv⟩ := hv.form
  go_enter Try.func20, Try.ntmps20
  go_wp2_with fail
  go_loopg [5, 7, 10] a.length (fun gg s5 _ s10 wr => ∃ (j : Nat) (l : List Int) (Ao : Option Addr) (co : Nat), j ≤ a.length ∧ a.length - j ≤ gg ∧ s10 = .int .i64 j ∧ s5 = .slice Ao l.length co ∧ Below w.heap.size w wr ∧ wr.ownsRow w.heap.size 3 1 (.slice Ao l.length co) l.length (nums l) ∧ l.length ≤ j ∧ Aside (l = (a.take j).filter fun x => decide (absI x ∈ vars)))
  case atStart => exact ⟨0, [], none, 0, Nat.zero_le _, by omega, rfl, rfl, Below.refl _ _, World.ownsRow_nil _ _ _ _, Nat.le_refl _, by show ([] : List Int) = _; simp⟩
  case round =>
    obtain ⟨j, l, Ao, co, hj, hg, rfl, rfl, hB, hO, hlj, hT⟩ := hrel
    by_cases hlt : j < a.length
    · obtain ⟨x, hx, hxm, -⟩ := nth hlt
      obtain ⟨bx, ox, rfl, hcx, hx64⟩ := (ha.keep (keeps_below hB)).at_ j x hx
      have hltz : (j : Int) < (a.length : Int) := by omega
      have hab := in_abs hx64 hr
      obtain ⟨y, hy⟩ : ∃ y, IntKind.i64.wrap (-x) = y := ⟨_, rfl⟩
      rw [hy] at hab
      have HT : Hid (∀ q, decide (absI x ∈ vars) = q → (a.take (j + 1)).filter (fun x => decide (absI x ∈ vars)) = if q = true then l ++ [x] else l) := fun q hq => by
        have e : l = (a.take j).filter fun x => decide (absI x ∈ vars) := hT
        rw [take_snoc hx, List.filter_append, ← e]
        cases q <;> simp [hq]
      have CX := In_any (.slice Av vars.length cv) vars x wr (hv.keep (keeps_below hB))
      have CY := In_any (.slice Av vars.length cv) vars y wr (hv.keep (keeps_below hB))
      have hbs := hB.size
      obtain ⟨r1, hr1⟩ : ∃ r, decide (x ∈ vars) = r := ⟨_, rfl⟩
      obtain ⟨r2, hr2⟩ : ∃ r, decide (y ∈ vars) = r := ⟨_, rfl⟩
      rw [hr1, hr2] at hab
      rw [hr1] at CX
      rw [hr2] at CY
      have HR := hid hab.symm
      have hx64' := hid hx64
      clear hT hx hxm hab hr1 hr2 hx64
      cases r1 with
      | true =>
        go_wp2_with (first | (go_at_call 29; refine CX.mono ?_; rintro e w' ⟨rfl, hw⟩; obtain rfl : wr = w' := hw.symm) | (at_builtin; refine append_one w.heap.size rfl _ _ 26 3 (.int .i64 0) 1 8 rfl Try.underlying26 info3 rfl (by decide) (by decide) (.slice Ao l.length co) l.length (nums l) #[.int .i64 x] rfl rfl rfl (by intro u hu; simp at hu; subst hu; rfl) hO hbs (by omega) ?_; intro g' cap w5 hO5 hG5 hg5 hbg hlt5))
        rw [nums_snoc] at hO5
        go_roundg (a.length - (j + 1))
        case measure => omega
        case rel => exact ⟨j + 1, l ++ [x], some ⟨g', 0, none⟩, cap, by omega, by omega, by go_num, by simp, hB.grown hG5 hB.size (fun r e => (hO.lt r e).1), by simpa using hO5, by simp; omega, by have := HT.out _ HR.out; simp at this; exact this.symm⟩
      | false =>
        cases r2 with
        | true =>
          go_wp2_with fail
          refine CX.mono ?_
          rintro e w' ⟨rfl, hw⟩
          obtain rfl : wr = w' := hw.symm
          go_wp2_with fail
          refine CY.mono ?_
          rintro e w' ⟨rfl, hw⟩
          obtain rfl : wr = w' := hw.symm
          go_wp2_with (first | (at_builtin; refine append_one w.heap.size rfl _ _ 26 3 (.int .i64 0) 1 8 rfl Try.underlying26 info3 rfl (by decide) (by decide) (.slice Ao l.length co) l.length (nums l) #[.int .i64 x] rfl rfl rfl (by intro u hu; simp at hu; subst hu; rfl) hO hbs (by omega) ?_; intro g' cap w5 hO5 hG5 hg5 hbg hlt5))
          rw [nums_snoc] at hO5
          go_roundg (a.length - (j + 1))
          case measure => omega
          case rel => exact ⟨j + 1, l ++ [x], some ⟨g', 0, none⟩, cap, by omega, by omega, by go_num, by simp, hB.grown hG5 hB.size (fun r e => (hO.lt r e).1), by simpa using hO5, by simp; omega, by have := HT.out _ HR.out; simp at this; exact this.symm⟩
        | false =>
          go_wp2_with fail
          refine CX.mono ?_
          rintro e w' ⟨rfl, hw⟩
          obtain rfl : wr = w' := hw.symm
          go_wp2_with fail
          refine CY.mono ?_
          rintro e w' ⟨rfl, hw⟩
          obtain rfl : wr = w' := hw.symm
          go_wp2_with fail
          go_roundg (a.length - (j + 1))
          case measure => omega
          case rel => exact ⟨j + 1, l, Ao, co, by omega, by omega, by go_num, rfl, hB, hO, by omega, by have := HT.out _ HR.out; simp at this; exact this.symm⟩
    · have hltz : ¬ (j : Int) < (a.length : Int) := by omega
      have e : l = a.filter fun x => decide (absI x ∈ vars) := by
        have e : l = (a.take j).filter fun x => decide (absI x ∈ vars) := hT
        rwa [List.take_of_length_le (by omega)] at e
      have HE := hid e
      have hI := ints_of_own2 hO (fun z hz => by rw [e] at hz; exact ha.i64 z (List.mem_filter.1 hz).1)
      have CO := over_any (.slice none 0 0) (.slice Ao l.length co) [] l wr (ints_none wr) hI (by simp; omega)
      clear e hT hO
      go_wp2_with (go_at_call 22; refine CO.mono ?_; rintro e w' ⟨v', rfl, hI', hB'⟩)
      go_ret
      exact ⟨v', rfl, by unfold withinP; rw [← HE.out]; exact hI', below_then hB hB.size hB'⟩
end Go.Proofs.Ytnlobmepajakcaa
