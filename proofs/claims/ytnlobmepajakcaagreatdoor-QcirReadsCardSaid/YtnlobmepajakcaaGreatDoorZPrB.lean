/- What Print of qcir returns; the condition: gates have at most 2^62 literals. -/
import Derived.Test.YtnlobmepajakcaaGreatDoorZPrA
import Derived.Deep.RegionHeld3
set_option linter.unusedVariables false
set_option linter.unusedSimpArgs false
namespace Go.Proofs.YtnlobmepajakcaaGreatDoor
open Go.RowKit Go.Shelf
attribute [local go_sem] Oper.semAt_some

/-- What a valid net keeps to. -/
structure PF (N : PNet) : Prop where
  vars : ∀ b ∈ N.pre, (∀ x ∈ b.vars, -65536 ≤ x ∧ x ≤ 65536) ∧ b.vars.length ≤ 1024
  prel : N.pre.length ≤ 1024
  out : -65536 ≤ N.out ∧ N.out ≤ 65536
  gates : ∀ g ∈ N.gates, (-65536 ≤ g.var ∧ g.var ≤ 65536) ∧ (1 ≤ g.kind ∧ g.kind ≤ 4) ∧ (∀ x ∈ g.ins, -65536 ≤ x ∧ x ≤ 65536) ∧ g.ins.length ≤ 200000
  gl : N.gates.length ≤ 65537
  len : (textP N).length ≤ 10000000
theorem lit_le {gs : List PGate} {g : PGate} (h : g ∈ gs) : g.ins.length ≤ litSum gs := by
  induction gs with
  | nil => cases h
  | cons x gs ih =>
    have e : litSum (x :: gs) = x.ins.length + litSum gs := rfl
    rcases List.mem_cons.1 h with rfl | h
    · omega
    · have := ih h; omega
theorem vars_le {p : List PBlock} {b : PBlock} (h : b ∈ p) : b.vars.length ≤ (varsOf p).length := by
  induction p with
  | nil => cases h
  | cons x p ih =>
    have e : varsOf (x :: p) = x.vars ++ varsOf p := by simp [varsOf]
    rw [e, List.length_append]
    rcases List.mem_cons.1 h with rfl | h
    · omega
    · have := ih h; omega
theorem pf_of {N : PNet} (hM : mayP N = true) : PF N := by
  obtain ⟨hpre, hlits, S, hS, hout⟩ := mayP_pre hM
  have hps : (prefFrom none 0 noS N.pre).isSome = true := by rw [hpre]; rfl
  obtain ⟨r1, r2⟩ := pre_rng hps
  obtain ⟨a1, _⟩ := preS_of hps
  have hal := alt_len _ _ a1
  have hm := may_lits hM
  have hgl := good_len (good_of_may _ hS)
  have ht := text_len hM
  refine ⟨fun b hb => ⟨fun x hx => ?_, ?_⟩, by omega, ?_, fun g hg => ⟨?_, ?_, fun x hx => ?_, ?_⟩, hgl, by omega⟩
  · have := r1 x (by unfold varsOf; rw [List.mem_flatMap]; exact ⟨b, hb, hx⟩)
    omega
  · have := vars_le hb; omega
  · have := absN_pos hm.2; omega
  · have := addB_iff.1 ((good_of_may _ hS).each g hg).2; omega
  · exact (kind_of_shape ((good_of_may _ hS).each g hg).1).1
  · have := absN_pos (hm.1 g hg x hx); omega
  · have := lit_le hg; omega
theorem flat_take {α : Type} (f : α → Bs) : ∀ (xs : List α) (i : Nat), ((xs.take i).flatMap f).length ≤ (xs.flatMap f).length
  | [], i => by simp
  | x :: xs, 0 => by simp
  | x :: xs, i + 1 => by
    have := flat_take f xs i
    simp only [List.take_succ_cons, List.flatMap_cons, List.length_append]
    omega
theorem flat_snoc {α : Type} (f : α → Bs) {xs : List α} {i : Nat} {x : α} (h : xs[i]? = some x) : (xs.take (i + 1)).flatMap f = (xs.take i).flatMap f ++ f x := by
  rw [take_snoc h, List.flatMap_append]
  simp
/-- Print between two writes: the net's box and the builder. -/
structure PrI (w : World) (b : Nat) (box : Array Value) (l : Bs) (wr : World) : Prop where
  below : Below w.heap.size w wr
  lt : w.heap.size < b
  size : b + 1 ≤ wr.heap.size
  box : wr.heap[w.heap.size]? = some (.cells box 40 (0, 0))
  bld : Bld b b l wr
theorem PrI.under {w : World} {b : Nat} {box : Array Value} {l : Bs} {wr w' : World} (h : PrI w b box l wr) (hB : Below wr.heap.size wr w') : PrI w b box l w' :=
  ⟨below_then h.below h.below.size hB, h.lt, Nat.le_trans h.size hB.size, row_below h.box hB, h.bld.below hB⟩
theorem PrI.drew {w : World} {b : Nat} {box : Array Value} {l : Bs} {wr : World} (h : PrI w b box l wr) : PrI w b box l wr.drew := h.under ((Below.refl _ _).drew)
theorem PrI.write {w : World} {b : Nat} {box : Array Value} {l : Bs} {wr : World} (h : PrI w b box l wr) (s : Bs) (hlen : l.length + s.length ≤ 140737488355328) :
    Calls Tryz.prog 14 #[.pointer (some ⟨b, 0, none⟩), .string ⟨s.toArray⟩] wr fun e w' => e = .returned (.tuple #[.int .i64 (s.length : Int), .nilIface]) ∧ PrI w b box (l ++ s) w' ∧ Lib.OthersKept 5 (some b) wr w' := by
  refine (write_any b b l s wr h.bld hlen (by have := h.size; omega)).mono ?_
  rintro e w' ⟨rfl, h1, h2, h3⟩
  have hl := h.lt
  exact ⟨rfl, ⟨h.below.trans (h2.mono (by omega)), hl, Nat.le_trans h.size h2.size, (h2.block _ hl).trans h.box, h1⟩, h3⟩
theorem ints_oneC {w : World} {g : Nat} {x : Int} {t : TypeId} {fz : Nat × Nat} (h : w.heap[g]? = some (.cells #[.int .i64 x] t fz)) (hx : I64 x) : IntsAt w (.slice (some ⟨g, 0, none⟩) 1 1) [x] := by
  refine ⟨some ⟨g, 0, none⟩, 1, rfl, Nat.le_refl _, by omega, fun _ => ⟨g, 0, rfl, fun j y hy => ?_⟩⟩
  have hj : j = 0 := by
    have := (List.getElem?_eq_some_iff.1 hy).1
    simp at this; omega
  subst hj
  injection hy with hy
  subst hy
  exact ⟨cell_row h rfl, hx⟩
theorem words_cell {w : World} (hE : Env w) {k : Nat} (h1 : 1 ≤ k) (h2 : k ≤ 4) : w.cell? ⟨0, k, none⟩ = some (sv (kindW (k : Int))) := by
  obtain ⟨t, f, h⟩ := hE.words
  have : k = 1 ∨ k = 2 ∨ k = 3 ∨ k = 4 := by omega
  rcases this with rfl | rfl | rfl | rfl <;> exact cell_row h rfl
set_option maxRecDepth 100000 in
set_option maxHeartbeats 4000000 in
theorem Print_any (v : Value) (N : PNet) (w : World) (h : NetAt w v N) (hl : litSum N.gates ≤ 4611686018427387904) (hE : Env w) :
    Calls Tryz.prog 23 #[v] w fun e w' => e = .returned (.tuple #[.string ⟨(printP N).1.toArray⟩, .int .i64 (printP N).2]) ∧ Below w.heap.size w w' := by
  obtain ⟨vp, vg, rfl, ho, hp, hgt⟩ := h
  obtain ⟨Ap, cp, rfl, hlp, hcp⟩ := hp.form
  obtain ⟨Ag, cg, rfl, hlg, hcg⟩ := hgt.form
  obtain ⟨w1, hw1, -, -, hz1, hB1, q1⟩ := new_block w #[.slice Ap N.pre.length cp, .slice Ag N.gates.length cg, .int .i64 N.out] 40
  have hN1 : NetAt w1 (.agg #[.slice Ap N.pre.length cp, .slice Ag N.gates.length cg, .int .i64 N.out]) N := NetAt.keep ⟨_, _, rfl, ho, hp, hgt⟩ (keeps_below hB1)
  have CM := May_any _ N w1 hN1 hl
  have k0 := cell_row q1 (j := 0) rfl
  have k1 := cell_row q1 (j := 1) rfl
  have k2 := cell_row q1 (j := 2) rfl
  cases hM : mayP N with
  | false =>
    rw [hM] at CM
    have HP : printP N = ([], 2) := by unfold printP; rw [if_neg (by rw [hM]; simp)]
    have HP := hid HP
    clear hM
    go_enter Tryz.func23, Tryz.ntmps23
    go_wp2_with (first | (go_at_call 55; refine CM.mono ?_; rintro e W1 ⟨rfl, hB2⟩) | fail)
    go_ret2
    exact ⟨by rw [HP.out]; rfl, below_then hB1 hB1.size hB2⟩
  | true =>
    rw [hM] at CM
    have F := hid (pf_of hM)
    have HM := hid hM
    clear hM
    go_enter Tryz.func23, Tryz.ntmps23
    go_wp2_with fail
    refine CM.mono ?_
    rintro e W1 ⟨rfl, hB2⟩
    obtain ⟨W2, hW2, -, -, hz2, hB3, q2⟩ := new_block W1 #[.pointer none, .slice none 0 0] 27
    have hb1 : w.heap.size < W1.heap.size := by have := hB2.size; omega
    have P0 : PrI w W1.heap.size #[.slice Ap N.pre.length cp, .slice Ag N.gates.length cg, .int .i64 N.out] [] W2 := by
      refine ⟨below_then (below_then hB1 hB1.size hB2) (by omega) hB3, hb1, by omega, row_below (row_below q1 hB2) hB3, ?_⟩
      rw [← hW2]; exact bld_fresh W1
    have C0 := P0.write headP (by decide)
    clear q2 hB3 hN1 hw1 CM P0 hz2 k0 k1 k2
    go_wp2_with fail
    refine C0.mono ?_
    rintro e W3 ⟨rfl, P3, -⟩
    generalize hbb : W1.heap.size = b at *
    clear hW2 hbb C0 hB2 hB1 q1 hz1 hb1
    have ca : W3.cell? ⟨w.heap.size, 0, none⟩ = some (.slice Ap N.pre.length cp) := cell_row P3.box (j := 0) rfl
    go_wp2_with fail
    clear ca
    go_loopg [16] N.pre.length (fun gg s16 wr => ∃ j : Nat, j ≤ N.pre.length ∧ N.pre.length - j ≤ gg ∧ s16 = .int .i64 (j : Int) ∧ PrI w b #[.slice Ap N.pre.length cp, .slice Ag N.gates.length cg, .int .i64 N.out] (headP ++ (N.pre.take j).flatMap blockS) wr)
    case atStart => exact ⟨0, Nat.zero_le _, by omega, rfl, by simpa using P3⟩
    case round =>
      obtain ⟨j, hj, hg, rfl, P⟩ := hrel
      by_cases hlt : j < N.pre.length
      · have hltz : (j : Int) < (N.pre.length : Int) := by omega
        obtain ⟨x, hxj, hxm, -⟩ := nth hlt
        obtain ⟨bp, off, vi, rfl, hc0, hc1, hi⟩ := hp.at_ j x hxj
        replace hc0 := keeps_below P.below _ _ hc0
        replace hc1 := keeps_below P.below _ _ hc1
        obtain ⟨Ai, ci, rfl, hli, hci⟩ := hi.form
        obtain ⟨w9, hw9, -, -, hz9, hB9, q9⟩ := new_block wr #[.bool x.ex, .slice Ai x.vars.length ci] 71
        have P9 := P.under hB9
        have hbq : wr.heap.size ≠ b := by have := P.size; omega
        have hlen : (headP ++ (N.pre.take j).flatMap blockS).length ≤ 20000000 := by
          have h1 := flat_take blockS N.pre j
          have h2 := F.out.len
          unfold textP at h2
          simp only [List.length_append] at h2 ⊢
          omega
        have hx := F.out.vars x hxm
        have hll := litsP_le x.vars hx.1 (by omega)
        have hlS : (listS x.vars).length ≤ 8000010 := by unfold listS; simp only [List.length_append, List.length_cons, List.length_nil]; omega
        have hsn := hid (flat_snoc blockS hxj)
        cases hex : x.ex with
        | true =>
          rw [hex] at q9 hw9 hc0
          have c90 := cell_row q9 (j := 0) (v := .bool true) rfl
          have c91 := cell_row q9 (j := 1) (v := .slice Ai x.vars.length ci) rfl
          have C1 := P9.write wExists (by have : wExists.length = 6 := rfl; omega)
          have HEX := hid hex
          have HX := hid hx
          have HI := hid hi
          clear hex hxj hxm hx P hi
          go_wp2_with fail
          refine C1.mono ?_
          rintro e w4 ⟨rfl, P4, K4⟩
          have q4 := kept_row K4 q9 hbq (by decide)
          have c41 := cell_row q4 (j := 1) (v := .slice Ai x.vars.length ci) rfl
          have CL := listS_any _ x.vars w4 (HI.out.keep (keeps_below P4.below)) HX.out.1 (by have := HX.out.2; omega) (hE.below P4.below hE.size)
          go_wp2_with fail
          refine CL.mono ?_
          rintro e w5 ⟨rfl, hB5⟩
          have C2 := (P4.under hB5).write (listS x.vars) (by have : wExists.length = 6 := rfl; rw [List.length_append]; omega)
          clear CL C1 hlS hlen hll c90 c91 c41
          go_wp2_with fail
          refine C2.mono ?_
          rintro e w6 ⟨rfl, P6, -⟩
          go_wp2_with fail
          go_roundg (N.pre.length - (j + 1))
          case measure => omega
          case rel =>
            refine ⟨j + 1, by omega, by omega, by go_num, ?_⟩
            rw [hsn.out, show blockS x = wExists ++ listS x.vars by unfold blockS; rw [HEX.out]; rfl]
            simpa only [List.append_assoc] using P6
        | false =>
          rw [hex] at q9 hw9 hc0
          have c90 := cell_row q9 (j := 0) (v := .bool false) rfl
          have c91 := cell_row q9 (j := 1) (v := .slice Ai x.vars.length ci) rfl
          have C1 := P9.write wForall (by have : wForall.length = 6 := rfl; omega)
          have HEX := hid hex
          have HX := hid hx
          have HI := hid hi
          clear hex hxj hxm hx P hi
          go_wp2_with fail
          refine C1.mono ?_
          rintro e w4 ⟨rfl, P4, K4⟩
          have q4 := kept_row K4 q9 hbq (by decide)
          have c41 := cell_row q4 (j := 1) (v := .slice Ai x.vars.length ci) rfl
          have CL := listS_any _ x.vars w4 (HI.out.keep (keeps_below P4.below)) HX.out.1 (by have := HX.out.2; omega) (hE.below P4.below hE.size)
          go_wp2_with fail
          refine CL.mono ?_
          rintro e w5 ⟨rfl, hB5⟩
          have C2 := (P4.under hB5).write (listS x.vars) (by have : wForall.length = 6 := rfl; rw [List.length_append]; omega)
          clear CL C1 hlS hlen hll c90 c91 c41
          go_wp2_with fail
          refine C2.mono ?_
          rintro e w6 ⟨rfl, P6, -⟩
          go_wp2_with fail
          go_roundg (N.pre.length - (j + 1))
          case measure => omega
          case rel =>
            refine ⟨j + 1, by omega, by omega, by go_num, ?_⟩
            rw [hsn.out, show blockS x = wForall ++ listS x.vars by unfold blockS; rw [HEX.out]; rfl]
            simpa only [List.append_assoc] using P6
      · have hltz : ¬ (j : Int) < (N.pre.length : Int) := by omega
        rw [List.take_of_length_le (by omega : N.pre.length ≤ j)] at P
        have c2 : wr.cell? ⟨w.heap.size, 2, none⟩ = some (.int .i64 N.out) := cell_row P.box (j := 2) rfl
        obtain ⟨w4, hw4, -, -, hz4, hB4, q4⟩ := new_block wr #[.int .i64 N.out] 3
        have P4 := P.under hB4
        have hO := F.out.out
        have CL := listS_any (.slice (some ⟨wr.heap.size, 0, none⟩) 1 1) [N.out] w4 (ints_oneC q4 (by unfold I64; omega)) (by intro x hx; rw [List.mem_singleton.1 hx]; exact hO) (by simp) (hE.below P4.below hE.size)
        have hll := litsP_le [N.out] (by intro x hx; rw [List.mem_singleton.1 hx]; exact hO) (by simp)
        have hlS : (listS [N.out]).length ≤ 8000010 := by unfold listS; simp only [List.length_append, List.length_cons, List.length_nil]; omega
        have hlen : (headP ++ N.pre.flatMap blockS).length ≤ 20000000 := by
          have h2 := F.out.len
          unfold textP at h2
          simp only [List.length_append] at h2 ⊢
          omega
        have HO := hid hO
        clear hO q4 hz4 hll
        go_wp2_with fail
        refine CL.mono ?_
        rintro e w5 ⟨rfl, hB5⟩
        have P5 := P4.under hB5
        have C2 := P5.write (wOutput ++ listS [N.out]) (by have e6 : (wOutput ++ listS [N.out]).length = 6 + (listS [N.out]).length := List.length_append; omega)
        rw [← ba_app] at C2
        clear CL hlen hB5 hw4 P4 c2
        unfold wOutput at C2
        go_wp2_with fail
        refine C2.mono ?_
        rintro e w6 ⟨rfl, P6, -⟩
        have eT : headP ++ N.pre.flatMap blockS ++ ([111, 117, 116, 112, 117, 116] ++ listS [N.out]) = headP ++ N.pre.flatMap blockS ++ (wOutput ++ listS [N.out]) := rfl
        rw [eT] at P6
        have ET := hid eT
        have c1 : w6.cell? ⟨w.heap.size, 1, none⟩ = some (.slice Ag N.gates.length cg) := cell_row P6.box (j := 1) rfl
        clear eT C2 hlS P5 P3 P
        generalize wr = W2 at *
        go_wp2_with fail
        clear c1
        go_loopg [38] N.gates.length (fun gg s38 wr => ∃ i : Nat, i ≤ N.gates.length ∧ N.gates.length - i ≤ gg ∧ s38 = .int .i64 (i : Int) ∧ PrI w b #[.slice Ap N.pre.length cp, .slice Ag N.gates.length cg, .int .i64 N.out] (headP ++ N.pre.flatMap blockS ++ (wOutput ++ listS [N.out]) ++ (N.gates.take i).flatMap gateS) wr)
        case atStart => exact ⟨0, Nat.zero_le _, by omega, rfl, by simpa using P6⟩
        case round =>
          obtain ⟨i, hi, hgg, rfl, P⟩ := hrel
          by_cases hlti : i < N.gates.length
          · have hltiz : (i : Int) < (N.gates.length : Int) := by omega
            obtain ⟨x, hxi, hxm, -⟩ := nth hlti
            obtain ⟨bg, og, vi, rfl, k0, k1, k2, hgi, hg64, hkd0, hkd1⟩ := hgt.at_ i x hxi
            replace k0 := keeps_below P.below _ _ k0
            replace k1 := keeps_below P.below _ _ k1
            replace k2 := keeps_below P.below _ _ k2
            obtain ⟨Ai, ci, rfl, hli, hci⟩ := hgi.form
            obtain ⟨hv, ⟨hkk1, hkk2⟩, hil, hin⟩ := F.out.gates x hxm
            have hsn := hid (flat_snoc gateS hxi)
            obtain ⟨xv, xk, xi⟩ := x
            simp only [] at *
            obtain ⟨kd, rfl⟩ := Int.eq_ofNat_of_zero_le (show 0 ≤ xk by omega)
            obtain ⟨w9, hw9, -, -, hz9, hB9, q9⟩ := new_block wr #[.int .i64 xv, .int .u8 (kd : Int), .slice Ai xi.length ci] 88
            have P9 := (P.under hB9).drew
            have hbq : wr.heap.size ≠ b := by have := P.size; omega
            have hlen : (headP ++ N.pre.flatMap blockS ++ (wOutput ++ listS [N.out]) ++ (N.gates.take i).flatMap gateS).length ≤ 20000000 := by
              have h1 := flat_take gateS N.gates i
              have h2 := F.out.len
              unfold textP at h2
              simp only [List.length_append] at h2 ⊢
              omega
            have hkw : (kd : Int) = 1 ∨ (kd : Int) = 2 ∨ (kd : Int) = 3 ∨ (kd : Int) = 4 := by omega
            have hll := litsP_le xi hil (by omega)
            have hlS : (listS xi).length ≤ 8000010 := by unfold listS; simp only [List.length_append, List.length_cons, List.length_nil]; omega
            have hvl := intP_len hv
            have hkl := kindW_len (kd : Int)
            have q9d : w9.drew.heap[wr.heap.size]? = some (.cells #[.int .i64 xv, .int .u8 (kd : Int), .slice Ai xi.length ci] 88 (0, 0)) := q9
            have hE9 := hE.below P9.below hE.size
            have hSk : ∀ W : World, Env W → W.heap[wr.heap.size]? = some (.cells #[.int .i64 xv, .int .u8 (kd : Int), .slice Ai xi.length ci] 88 (0, 0)) →
                W.cell? ⟨wr.heap.size, 0, none⟩ = some (.int .i64 xv) ∧ W.cell? ⟨wr.heap.size, 1, none⟩ = some (.int .u8 (kd : Int)) ∧ W.cell? ⟨wr.heap.size, 2, none⟩ = some (.slice Ai xi.length ci) ∧ W.cell? ⟨0, kd, none⟩ = some (.string ⟨(kindW (kd : Int)).toArray⟩) := fun W hW hq =>
              ⟨cell_row hq (j := 0) rfl, cell_row hq (j := 1) rfl, cell_row hq (j := 2) rfl, words_cell hW (by omega) (by omega)⟩
            have CI : Calls Tryz.prog 57 #[.int .i64 xv] w9.drew fun e w' => e = .returned (.string ⟨(intP xv).toArray⟩) ∧ Below w9.drew.heap.size w9.drew w' := by
              refine (Tryz.strconv_Itoa xv (by omega) (by omega) w9.drew hE9.tab).mono ?_
              rintro e w' ⟨rfl, k, os, rfl⟩
              exact ⟨by rw [intP_itoa], Lib.below_grow _ _ (Nat.le_refl _) _ _⟩
            have hS0 := hSk _ hE9 q9d
            have hkd5 : kd < 5 := by omega
            have HSK := hid hSk
            have HGI := hid hgi
            have HIL := hid hil
            have HQ := hid q9d
            have HEX := hid (And.intro hxi hin)
            clear hSk hgi hil q9d hE9 hxm hxi hin
            have CL : ∀ W, Below w9.drew.heap.size w9.drew W → Calls Tryz.prog 56 #[.slice Ai xi.length ci] W fun e w' => e = .returned (.string ⟨(listS xi).toArray⟩) ∧ Below W.heap.size W w' := fun W hW =>
              listS_any _ xi W (HGI.out.keep (keeps_below (P9.under hW).below)) HIL.out (by have := HEX.out.2; omega) (hE.below (P9.under hW).below hE.size)
            have CW : ∀ W, Below w9.drew.heap.size w9.drew W → Calls Tryz.prog 14 #[.pointer (some ⟨b, 0, none⟩), .string ((((⟨(intP xv).toArray⟩ : ByteArray) ++ ⟨#[32, 61, 32]⟩) ++ ⟨(kindW (kd : Int)).toArray⟩) ++ ⟨(listS xi).toArray⟩)] W fun e w' => ∃ t, e = .returned (.tuple t) ∧
                PrI w b #[.slice Ap N.pre.length cp, .slice (some ⟨bg, og, none⟩) N.gates.length cg, .int .i64 N.out] (headP ++ N.pre.flatMap blockS ++ (wOutput ++ listS [N.out]) ++ (N.gates.take i).flatMap gateS ++ gateS ⟨xv, kd, xi⟩) w' ∧ Lib.OthersKept 5 (some b) W w' := fun W hW => by
              have C := (P9.under hW).write (intP xv ++ [32, 61, 32] ++ kindW (kd : Int) ++ listS xi) (by have e1 : (intP xv ++ [32, 61, 32] ++ kindW (kd : Int) ++ listS xi).length = (intP xv).length + 3 + (kindW (kd : Int)).length + (listS xi).length := by { simp only [List.length_append, List.length_cons, List.length_nil] }; omega)
              rw [← ba_app, ← ba_app, ← ba_app] at C
              refine C.mono ?_
              rintro e w' ⟨rfl, h1, h2⟩
              exact ⟨_, rfl, h1, h2⟩
            have HZ := hid hkw
            have hkz : (kd : Int) < 5 := by omega
            have hky : (0 : Int) ≤ (kd : Int) := by omega
            clear hkw
            go_wp2_with fail
            refine wp_region_held_drew (S := (fun W => W.cell? ⟨wr.heap.size, 0, none⟩ = some (.int .i64 xv) ∧ W.cell? ⟨wr.heap.size, 1, none⟩ = some (.int .u8 (kd : Int)) ∧ W.cell? ⟨wr.heap.size, 2, none⟩ = some (.slice Ai xi.length ci) ∧ W.cell? ⟨0, kd, none⟩ = some (.string ⟨(kindW (kd : Int)).toArray⟩))) (by kernel_rfl) hS0 (fun hHeld => ?_)
            refine wpAnyH_take (i := 0) (v := ?vg1) rfl (by kernel_rfl) (by kernel_rfl) (by kernel_rfl) (fun _ _ _ h => h) (Or.inl ⟨by rfl, ?yg1⟩) hHeld ?_
            case yg1 => (intro w' hSw; (try dsimp only at hSw); go_simp); (try with_reducible rfl)
            try simp only [Act.put, List.setIfInBounds_toArray, List.set_cons_zero, List.set_cons_succ]
            refine wpAnyH_take (i := 1) (v := ?vg2) rfl (by kernel_rfl) (by kernel_rfl) (by kernel_rfl) (fun _ _ _ h => h) (Or.inl ⟨by rfl, ?yg2⟩) hHeld ?_
            case yg2 => (intro w' hSw; (try dsimp only at hSw); go_simp); (try with_reducible rfl)
            try simp only [Act.put, List.setIfInBounds_toArray, List.set_cons_zero, List.set_cons_succ]
            refine wpAnyH_take (i := 4) (v := ?vg3) rfl (by kernel_rfl) (by kernel_rfl) (by kernel_rfl) (fun _ _ _ h => h) (Or.inl ⟨by rfl, ?yg3⟩) hHeld ?_
            case yg3 => (intro w' hSw; (try dsimp only at hSw); go_simp); (try with_reducible rfl)
            try simp only [Act.put, List.setIfInBounds_toArray, List.set_cons_zero, List.set_cons_succ]
            refine wpAnyH_take (i := 5) (v := ?vg4) rfl (by kernel_rfl) (by kernel_rfl) (by kernel_rfl) (fun _ _ _ h => h) (Or.inl ⟨by rfl, ?yg4⟩) hHeld ?_
            case yg4 => (intro w' hSw; (try dsimp only at hSw); go_simp); (try with_reducible rfl)
            try simp only [Act.put, List.setIfInBounds_toArray, List.set_cons_zero, List.set_cons_succ]
            refine wpAnyH_take (i := 6) (v := ?vg5) rfl (by kernel_rfl) (by kernel_rfl) (by kernel_rfl) (fun _ _ _ h => h) (Or.inl ⟨by rfl, ?yg5⟩) hHeld ?_
            case yg5 => (intro w' hSw; (try dsimp only at hSw); go_simp); (try with_reducible rfl)
            try simp only [Act.put, List.setIfInBounds_toArray, List.set_cons_zero, List.set_cons_succ]
            refine wpAnyH_take (i := 7) (v := ?vg6) rfl (by kernel_rfl) (by kernel_rfl) (by kernel_rfl) (fun _ _ _ h => h) (Or.inl ⟨by rfl, ?yg6⟩) hHeld ?_
            case yg6 => (intro w' hSw; (try dsimp only at hSw); go_simp); (try with_reducible rfl)
            try simp only [Act.put, List.setIfInBounds_toArray, List.set_cons_zero, List.set_cons_succ]
            refine wpAnyH_take (i := 9) (v := ?vg7) rfl (by kernel_rfl) (by kernel_rfl) (by kernel_rfl) (fun _ _ _ h => h) (Or.inl ⟨by rfl, ?yg7⟩) hHeld ?_
            case yg7 => (intro w' hSw; (try dsimp only at hSw); go_simp); (try with_reducible rfl)
            try simp only [Act.put, List.setIfInBounds_toArray, List.set_cons_zero, List.set_cons_succ]
            refine wpAnyH_take (i := 10) (v := ?vg8) rfl (by kernel_rfl) (by kernel_rfl) (by kernel_rfl) (fun _ _ _ h => h) (Or.inl ⟨by rfl, ?yg8⟩) hHeld ?_
            case yg8 => (intro w' hSw; (try dsimp only at hSw); go_simp); (try with_reducible rfl)
            try simp only [Act.put, List.setIfInBounds_toArray, List.set_cons_zero, List.set_cons_succ]
            refine wpAnyH_ready (rs := [2]) (by kernel_rfl) (by simp) ?_
            refine AllReadyH.cons rfl (fun Kc hKc => ?_) AllReadyH.nil
            go_simp
            go_at_call 57
            refine CI.mono ?_
            rintro e wA ⟨rfl, hBA⟩
            have hSA := HSK.out wA (hE.below (P9.under hBA).below hE.size) (row_below HQ.out hBA)
            go_wp2_with fail
            refine hKc.out _ _ hSA (fun hHeld => ?_)
            clear hKc Kc
            try simp only [Act.put, List.setIfInBounds_toArray, List.set_cons_zero, List.set_cons_succ]
            refine wpAnyH_take (i := 3) (v := ?vg9) rfl (by kernel_rfl) (by kernel_rfl) (by kernel_rfl) (fun _ _ _ h => h) (Or.inl ⟨by rfl, ?yg9⟩) hHeld ?_
            case yg9 => (intro w' hSw; (try dsimp only at hSw); go_simp; rw [if_neg (by omega)]); (try with_reducible rfl)
            try simp only [Act.put, List.setIfInBounds_toArray, List.set_cons_zero, List.set_cons_succ]
            refine wpAnyH_take (i := 8) (v := ?vg10) rfl (by kernel_rfl) (by kernel_rfl) (by kernel_rfl) (fun _ _ _ h => h) (Or.inl ⟨by rfl, ?yg10⟩) hHeld ?_
            case yg10 => (intro w' hSw; (try dsimp only at hSw); go_simp; rw [if_neg (by omega)]); (try with_reducible rfl)
            try simp only [Act.put, List.setIfInBounds_toArray, List.set_cons_zero, List.set_cons_succ]
            refine wpAnyH_ready (rs := [11]) (by kernel_rfl) (by simp) ?_
            refine AllReadyH.cons rfl (fun Kc hKc => ?_) AllReadyH.nil
            go_simp
            go_at_call 56
            refine (CL wA hBA).mono ?_
            rintro e wB ⟨rfl, hBB⟩
            have hBAB := below_then hBA hBA.size hBB
            have hSB := HSK.out wB (hE.below (P9.under hBAB).below hE.size) (row_below HQ.out hBAB)
            go_wp2_with fail
            refine hKc.out _ _ hSB (fun hHeld => ?_)
            clear hKc Kc
            try simp only [Act.put, List.setIfInBounds_toArray, List.set_cons_zero, List.set_cons_succ]
            refine wpAnyH_take (i := 12) (v := ?vg11) rfl (by kernel_rfl) (by kernel_rfl) (by kernel_rfl) (fun _ _ _ h => h) (Or.inl ⟨by rfl, ?yg11⟩) hHeld ?_
            case yg11 => (intro w' hSw; (try dsimp only at hSw); go_simp; rw [if_neg (by omega)]); (try with_reducible rfl)
            try simp only [Act.put, List.setIfInBounds_toArray, List.set_cons_zero, List.set_cons_succ]
            refine wpAnyH_ready (rs := [13]) (by kernel_rfl) (by simp) ?_
            refine AllReadyH.cons rfl (fun Kc hKc => ?_) AllReadyH.nil
            go_simp
            go_at_call 14
            refine (CW wB hBAB).mono ?_
            rintro e wC ⟨t, rfl, PC, KC⟩
            have hSC := HSK.out wC (hE.below PC.below hE.size) (kept_row KC (row_below HQ.out hBAB) hbq (by decide))
            go_wp2_with fail
            refine hKc.out _ _ hSC (fun hHeld => ?_)
            clear hKc Kc
            try simp only [Act.put, List.setIfInBounds_toArray, List.set_cons_zero, List.set_cons_succ]
            refine wpAnyH_done (by kernel_rfl) ?_ _
            go_wp2_with fail
            go_roundg (N.gates.length - (i + 1))
            case measure => omega
            case rel =>
              refine ⟨i + 1, by omega, by omega, by go_num, ?_⟩
              rw [hsn.out, ← List.append_assoc]
              exact PC
          · have hltiz : ¬ (i : Int) < (N.gates.length : Int) := by omega
            rw [List.take_of_length_le (by omega : N.gates.length ≤ i)] at P
            have CN := len_any b b _ wr P.bld
            have eX : headP ++ N.pre.flatMap blockS ++ (wOutput ++ listS [N.out]) ++ N.gates.flatMap gateS = textP N := rfl
            rw [eX] at CN P
            clear eX
            have hlenT := F.out.len
            have hTL := hid hlenT
            by_cases hbig : 4194304 < (textP N).length
            · have hbz : (4194304 : Int) < ((textP N).length : Int) := by omega
              have HP : printP N = ([], 3) := by unfold printP; rw [if_pos HM.out, if_pos hbig]
              have HP := hid HP
              clear hbig hlenT
              go_wp2_with fail
              refine CN.mono ?_
              rintro e w7 ⟨rfl, rfl⟩
              go_wp2_with fail
              go_ret2
              exact ⟨by rw [HP.out]; rfl, P.below⟩
            · have hbz : decide ((4194304 : Int) < ((textP N).length : Int)) = false := decide_eq_false (by omega)
              have HP : printP N = (textP N, 0) := by unfold printP; rw [if_pos HM.out, if_neg hbig]
              have HP := hid HP
              have CS := string_any b b (textP N) wr P.bld (by have := P.size; omega)
              clear hbig hlenT
              go_wp2_with fail
              refine CN.mono ?_
              rintro e w7 ⟨rfl, rfl⟩
              go_wp2_with fail
              refine CS.mono ?_
              rintro e w8 ⟨rfl, -, hB8, -⟩
              go_wp2_with fail
              go_ret2
              have hbl := P.lt
              exact ⟨by rw [HP.out]; rfl, P.below.trans (hB8.mono (by omega))⟩
end Go.Proofs.YtnlobmepajakcaaGreatDoor
