/- What block of qcir's reader does; the condition: texts have at most 2^22 bytes / append of an empty list of whatever address; no condition. -/
import Derived.Test.YtnlobmepajakcaaGreatDoorZRdO
import Derived.Test.YtnlobmepajakcaaGreatDoorZDel
set_option linter.unusedVariables false
set_option linter.unusedSimpArgs false
namespace Go.Proofs.YtnlobmepajakcaaGreatDoor
open Go.RowKit Go.Shelf

section
variable {ops : Array Oper} {rest : List Oper} {o : Oper} {a : Act} {Q : Exit → Act → World → Prop}
/-- append of a list of one's own, an empty one too. -/
theorem append_own {W : World} (base b2 : Nat) (hgd : o.guard = none) (s x : Operand) (ho : o.op = .call { callee := .builtin .append, args := #[s, x], argTypes := #[48, 48] })
    (v X : Value) (n : Nat) (xs : List Int) (m : Nat) (ys : List Int) (hs : a.eval s = v) (hx : a.eval x = X)
    (HO : W.ownsRow base 3 1 v n (nums xs)) (HY : W.ownsRow b2 3 1 X m (nums ys)) (hbase : base ≤ W.heap.size) (hl : (n + m) * 8 ≤ 140737488355328)
    (h : ∀ v1 w1, w1.ownsRow base 3 1 v1 (n + m) (nums (xs ++ ys)) → W.grownBy w1 v.ownBlock → (v1.ownBlock = v.ownBlock ∨ v1.ownBlock = some W.heap.size) → wpList Tryz.prog ops Q rest (a.put o.dst v1) w1) :
    wpList Tryz.prog ops Q (o :: rest) a W := by
  rcases HY.2 with ⟨rfl, rfl⟩ | ⟨g, cap, cur, rfl, _⟩
  · have hy : ys = [] := by have := HY.1; unfold nums at this; simpa using this
    subst hy
    obtain ⟨i0, hi, hzz⟩ := Option.map_eq_some_iff.1 info3
    have hr := run_append_owned_none W base 48 o.type 3 i0 1 Tryz.underlying48 hi v n (nums xs) HO
    exact step_append_run hgd s x 48 ho v _ v hs hx hr (h v W (by simpa using HO) (World.grownBy.refl _ _) (.inl rfl))
  · exact append_ints base b2 hgd s x ho v n xs g m cap ys hs hx HO HY hbase hl h
end
theorem nums_get {l : List Int} {j : Nat} {x : Int} (h : l[j]? = some x) : (nums l)[j]? = some (.int .i64 x) := by unfold nums; rw [List.getElem?_map, h]; rfl
theorem declP_bad : ∀ (l : List Int) (S S' : Nat → Bool) (j : Nat) (x : Int), declP S (l.take j) = some S' → l[j]? = some x → S' x.toNat = true → declP S l = none
  | [], _, _, _, _, _, h, _ => by simp at h
  | v :: vs, S, S', 0, x, h, hx, hS => by
    simp only [List.take_zero, declP, Option.some.injEq] at h
    simp only [List.getElem?_cons_zero, Option.some.injEq] at hx
    subst h; subst hx
    unfold declP
    rw [if_pos hS]
  | v :: vs, S, S', j + 1, x, h, hx, hS => by
    rw [List.take_succ_cons] at h
    unfold declP at h ⊢
    split
    · rfl
    · rename_i hv
      rw [if_neg hv] at h
      exact declP_bad vs _ S' j x h (by simpa using hx) hS
theorem declP_next : ∀ (l : List Int) (S S' : Nat → Bool) (j : Nat) (x : Int), declP S (l.take j) = some S' → l[j]? = some x → S' x.toNat = false → declP S (l.take (j + 1)) = some (upd S' x.toNat true)
  | [], _, _, _, _, _, h, _ => by simp at h
  | v :: vs, S, S', 0, x, h, hx, hS => by
    simp only [List.take_zero, declP, Option.some.injEq] at h
    simp only [List.getElem?_cons_zero, Option.some.injEq] at hx
    subst h; subst hx
    simp only [List.take_succ_cons, List.take_zero]
    unfold declP
    rw [if_neg (by rw [hS]; simp)]
    rfl
  | v :: vs, S, S', j + 1, x, h, hx, hS => by
    rw [List.take_succ_cons] at h ⊢
    unfold declP at h ⊢
    split
    · rename_i hv
      rw [if_pos hv] at h; cases h
    · rename_i hv
      rw [if_neg hv] at h
      exact declP_next vs _ S' j x h (by simpa using hx) hS
/-- The world with its first n blocks alone. -/
def cutW (w : World) (n : Nat) : World := { w with heap := w.heap.extract 0 n }
theorem cutW_size {w : World} {n : Nat} (h : n ≤ w.heap.size) : (cutW w n).heap.size = n := by
  show (w.heap.extract 0 n).size = n
  rw [Array.size_extract]; omega
theorem cutW_at (w : World) (n k : Nat) (hk : k < n) : (cutW w n).heap[k]? = w.heap[k]? := by
  show (w.heap.extract 0 n)[k]? = _
  rw [Array.getElem?_extract]
  split
  · rw [Nat.zero_add]
  · rename_i h; rw [Array.getElem?_eq_none (by omega)]
theorem cutW_below {w : World} {n : Nat} (h : n ≤ w.heap.size) : Below (cutW w n).heap.size (cutW w n) w :=
  ⟨rfl, rfl, rfl, by rw [cutW_size h]; exact h, fun k hk => by rw [cutW_size h] at hk; exact (cutW_at w n k hk).symm⟩
theorem addBlock_same {init : List PBlock} {x : PBlock} {ex : Bool} (h : x.ex = ex) (l : List Int) : addBlock (init ++ [x]) ex l = init ++ [⟨x.ex, x.vars ++ l⟩] := by
  unfold addBlock; simp [h]
theorem addBlock_other {p : List PBlock} {ex : Bool} (h : ∀ x, p.getLast? = some x → x.ex ≠ ex) (l : List Int) : addBlock p ex l = if l = [] then p else p ++ [⟨ex, l⟩] := by
  unfold addBlock
  split
  · rename_i x hx
    rw [if_neg (h x hx)]
  · rfl
theorem varsOf_add (p : List PBlock) (ex : Bool) (l : List Int) : (varsOf (addBlock p ex l)).length = (varsOf p).length + l.length := by
  rcases List.eq_nil_or_concat p with rfl | ⟨init, x, rfl⟩
  · unfold addBlock
    simp only [List.getLast?_nil]
    split
    · subst_vars; simp [varsOf]
    · simp [varsOf]
  · by_cases h : x.ex = ex
    · rw [List.concat_eq_append, addBlock_same h]
      simp only [varsOf, List.flatMap_append, List.flatMap_cons, List.flatMap_nil, List.append_nil, List.length_append]
      omega
    · rw [List.concat_eq_append, addBlock_other (fun y hy => by rw [List.getLast?_concat] at hy; injection hy with hy; rw [← hy]; exact h)]
      split
      · subst_vars; simp [varsOf]
      · simp only [varsOf, List.flatMap_append, List.flatMap_cons, List.flatMap_nil, List.append_nil, List.length_append]
theorem mem_add {p : List PBlock} {ex : Bool} {l : List Int} {q : Int → Prop} (h1 : ∀ x ∈ p, ∀ y ∈ x.vars, q y) (h2 : ∀ y ∈ l, q y) : ∀ x ∈ addBlock p ex l, ∀ y ∈ x.vars, q y := by
  rcases List.eq_nil_or_concat p with rfl | ⟨init, z, rfl⟩
  · unfold addBlock
    simp only [List.getLast?_nil]
    split
    · intro x hx; cases hx
    · intro x hx y hy
      simp only [List.nil_append, List.mem_singleton] at hx
      subst hx; exact h2 y hy
  · rw [List.concat_eq_append] at h1 ⊢
    by_cases h : z.ex = ex
    · rw [addBlock_same h]
      intro x hx y hy
      rcases List.mem_append.1 hx with hx | hx
      · exact h1 x (by simp [hx]) y hy
      · rw [List.mem_singleton.1 hx] at hy
        rcases List.mem_append.1 hy with hy | hy
        · exact h1 z (by simp) y hy
        · exact h2 y hy
    · rw [addBlock_other (fun y hy => by rw [List.getLast?_concat] at hy; injection hy with hy; rw [← hy]; exact h)]
      split
      · exact h1
      · intro x hx y hy
        rcases List.mem_append.1 hx with hx | hx
        · exact h1 x hx y hy
        · rw [List.mem_singleton.1 hx] at hy
          exact h2 y hy
theorem len_add (p : List PBlock) (ex : Bool) (l : List Int) : (addBlock p ex l).length ≤ p.length + 1 := by
  rcases List.eq_nil_or_concat p with rfl | ⟨init, z, rfl⟩
  · unfold addBlock
    simp only [List.getLast?_nil]
    split <;> simp
  · rw [List.concat_eq_append]
    by_cases h : z.ex = ex
    · rw [addBlock_same h]; simp
    · rw [addBlock_other (fun y hy => by rw [List.getLast?_concat] at hy; injection hy with hy; rw [← hy]; exact h)]
      split <;> simp
theorem vars_len {p : List PBlock} {x : PBlock} (h : x ∈ p) : x.vars.length ≤ (varsOf p).length := by
  obtain ⟨a, b, rfl⟩ := List.append_of_mem h
  simp [varsOf]; omega
set_option maxRecDepth 100000 in
set_option maxHeartbeats 2000000 in
theorem block1_any (n0 r b no : Nat) (R : RS) (s : Scan) (wL w : World) (hR : Rdr wL n0 r R no) (hB : Below wL.heap.size wL w) (hb : wL.heap.size ≤ b) (hs : ScanAt w b s) (hl : s.rest.length ≤ 4194304) (hE : Env w) (hno : no ≤ 4194305) :
    Calls Tryz.prog 84 #[.pointer (some ⟨r, 0, none⟩), .pointer (some ⟨b, 0, none⟩), .string ⟨#[102, 114, 101, 101]⟩] w fun e w' =>
      e = .returned (.int .i64 (addL R no (blockL 1 s)).1) ∧ Fr n0 r w w' ∧ ((addL R no (blockL 1 s)).1 = 0 → Rdr w' n0 r (addL R no (blockL 1 s)).2 (no + 1)) := by
  have hb9 : 9 ≤ b := by have := hR.nine; have := hR.lt; have := hR.size; omega
  have hbw := hs.lt
  have CL := list_num b w hb9 hE s hs hl
  have hsm := listP_small (fun s => numberP_bound s) s
  have hlen := listP_len numberP s
  have hLF : ∀ w1, w.grownBy w1 (some b) → Fr n0 r w w1 ∧ Below wL.heap.size wL w1 := fun w1 hg =>
    ⟨(Fr.refl n0 r w).grown (Nat.le_trans hR.size hB.size) hg (fun k e => by cases e; right; exact Nat.le_trans hR.size hb), hB.grown hg hB.size (fun k e => by cases e; exact hb)⟩
  have hBL : blockL 1 s = if (listP numberP s).2.ok = true then .block 1 (listP numberP s).1 else .bad := rfl
  generalize hls : listP numberP s = ls at *
  obtain ⟨l, ⟨r5, ok⟩⟩ := ls
  simp only [] at CL hsm hlen hBL
  clear hls
  obtain ⟨pv, gv, av, hA, hph⟩ := hR.mem
  have hrl := hA.lt
  have F : ∀ w1, Below wL.heap.size wL w1 → RdAt w1 r pv gv av R := fun w1 h => hA.heap (h.block r hrl)
  have HBL := hid hBL
  clear hBL
  cases ok with
  | false =>
    have HP := hid (show addL R no (blockL 1 s) = (5, R) by rw [HBL.out, if_neg (by simp)]; rfl)
    go_enter Tryz.func84, Tryz.ntmps84
    go_wp2_with (first | (go_at_call 126; refine CL.mono ?_; rintro e w5 ⟨A, c, rfl, h5, hg, hO⟩; have c1 := cell_row h5 (j := 1) rfl) | fail)
    go_ret
    rw [HP.out]
    exact ⟨rfl, (hLF w5 hg).1, fun h => absurd h (by simp)⟩
  | true =>
    have hL2 : blockL 1 s = .block 1 l := by rw [HBL.out, if_pos rfl]
    have HL2 := hid hL2
    clear hL2 HBL
    cases hd : R.done with
    | true =>
      have HP := hid (show addL R no (blockL 1 s) = (5, R) by rw [HL2.out]; unfold addL; simp only []; rw [if_pos (by simp [hd])])
      have HD := hid hd
      clear hd
      go_enter Tryz.func84, Tryz.ntmps84
      go_wp2_with (first | (go_at_call 126; refine CL.mono ?_; rintro e w5 ⟨A, c, rfl, h5, hg, hO⟩; have c1 := cell_row h5 (j := 1) rfl; have c2 := (F w5 (hLF w5 hg).2).cDone; rw [HD.out] at c2) | fail)
      go_ret
      rw [HP.out]
      exact ⟨rfl, (hLF w5 hg).1, fun h => absurd h (by simp)⟩
    | false =>
      have HD := hid hd
      clear hd
      cases hbg : R.begun with
      | true =>
        have HP := hid (show addL R no (blockL 1 s) = (5, R) by rw [HL2.out]; unfold addL; simp only []; rw [if_pos (by simp [hbg])])
        have HG := hid hbg
        clear hbg
        go_enter Tryz.func84, Tryz.ntmps84
        go_wp2_with (first | (go_at_call 126; refine CL.mono ?_; rintro e w5 ⟨A, c, rfl, h5, hg, hO⟩; have c1 := cell_row h5 (j := 1) rfl; have hA5 := F w5 (hLF w5 hg).2; have c2 := hA5.cDone; rw [HD.out] at c2; have c3 := hA5.cBegun; rw [HG.out] at c3) | fail)
        go_ret
        rw [HP.out]
        exact ⟨rfl, (hLF w5 hg).1, fun h => absurd h (by simp)⟩
      | false =>
        have HG := hid hbg
        have HNB : Hid (¬ (R.done = true ∨ 1 = 1 ∧ R.begun = true)) := hid (by rw [HD.out, hbg]; simp)
        clear hbg
        go_enter Tryz.func84, Tryz.ntmps84
        go_wp2_with fail
        go_at_call 126
        refine CL.mono ?_
        rintro e w5 ⟨A, c, rfl, h5, hg, hO⟩
        have c1 := cell_row h5 (j := 1) rfl
        have hA5 := F w5 (hLF w5 hg).2
        have c2 := hA5.cDone
        rw [HD.out] at c2
        have c3 := hA5.cBegun
        rw [HG.out] at c3
        have f3 := hA5.free 65542
        have hA6 := hA5.put 65542 (.bool true) (fun cs h => h.setBegun true)
        have g56 : w5.grownBy (w5.setCell ⟨r, 65542, none⟩ (.bool true)) (some r) := grown_setCell w5 ⟨r, 65542, none⟩ _
        have hll : l.length ≤ 4194306 := by omega
        clear CL F
        go_wp2_with fail
        clear c1 c2 c3 f3
        have hO6 := own_far hO g56 (by have := hR.lt; have := hR.size; have := hB.size; omega)
        have hB5 := (hLF w5 hg).2
        have hF6 : Fr n0 r w (w5.setCell ⟨r, 65542, none⟩ (.bool true)) := (hLF w5 hg).1.grown (Nat.le_trans hR.size hB5.size) g56 (fun k e => by cases e; exact .inl rfl)
        have hs5 : wL.heap.size ≤ w5.heap.size := hB5.size
        have hK5 : ∀ k, k < wL.heap.size → w5.heap[k]? = wL.heap[k]? := hB5.block
        have hrb : r < w.heap.size := by have := hR.lt; have := hR.size; have := hB.size; omega
        generalize (w5.setCell ⟨r, 65542, none⟩ (.bool true)) = w6 at *
        clear hA5 hB5 h5 hg
        go_loopg [42] l.length (fun gg s42 wr => ∃ (j : Nat) (S : Nat → Bool), j ≤ l.length ∧ l.length - j ≤ gg ∧ s42 = .int .i64 j ∧ Hid (declP R.seen (l.take j) = some S) ∧ RdAt wr r pv gv av { R with begun := true, seen := S } ∧ w6.grownBy wr (some r))
        case atStart => exact ⟨0, R.seen, Nat.zero_le _, by omega, rfl, hid (by simp [declP]), hA6, World.grownBy.refl _ _⟩
        case round =>
          obtain ⟨j, S, hj, hgk, rfl, hdS, hAr, gr⟩ := hrel
          have hOr := own_far hO6 gr hrb
          by_cases hlt : j < l.length
          · have hltz : (j : Int) < (l.length : Int) := by omega
            obtain ⟨x, hx, hxm, -⟩ := nth hlt
            have hxb := hsm x hxm
            obtain ⟨xn, rfl⟩ : ∃ k : Nat, x = (k : Int) := ⟨x.toNat, by omega⟩
            obtain ⟨g, cap, hAc, hg1, hg2, hg3⟩ := own_form hOr (by omega)
            cases hAc
            have cx : wr.cell? ⟨g, j, none⟩ = some (.int .i64 (xn : Int)) := (hOr.cellAt j (by omega)).trans (nums_get hx)
            have CD := declare_any r pv gv av _ xn wr hAr (by omega)
            simp only [] at CD
            have HX := hid hx
            cases hS : S xn with
            | true =>
              rw [hS] at CD
              have HP := hid (show addL R no (blockL 1 s) = (7, R) by
                rw [HL2.out]; unfold addL; simp only []
                rw [if_neg HNB.out, declP_bad l R.seen S j _ hdS.out HX.out (by rw [Int.toNat_natCast]; exact hS)])
              clear hS hx
              go_wp2_with (first | (go_at_call 128; refine CD.mono ?_; rintro e w7 ⟨rfl, hA7, g67⟩) | fail)
              go_ret
              rw [HP.out]
              exact ⟨rfl, (hF6.grown (by have := hF6.size; have := hR.size; have := hB.size; omega) gr (fun k e => by cases e; exact .inl rfl)).grown (by have := hF6.size; have := gr.size; have := hR.size; have := hB.size; omega) g67 (fun k e => by cases e; exact .inl rfl), fun h => absurd h (by simp)⟩
            | false =>
              rw [hS] at CD
              have HN := hid (declP_next l R.seen S j _ hdS.out hx (by rw [Int.toNat_natCast]; exact hS))
              clear hS hx
              go_wp2_with (first | (go_at_call 128; refine CD.mono ?_; rintro e w7 ⟨rfl, hA7, g67⟩) | fail)
              go_roundg (l.length - (j + 1))
              case measure => omega
              case rel => exact ⟨j + 1, _, by omega, by omega, by go_num, HN, hA7, gr.trans g67⟩
          · have hltz : ¬ (j : Int) < (l.length : Int) := by omega
            have hdL : declP R.seen l = some S := by have := hdS.out; rwa [List.take_of_length_le (by omega)] at this
            have HDL := hid hdL
            have hvv : R.vars ≤ 1024 := hR.ok.vars
            have cv := hAr.cVars
            simp only [] at cv
            have fv := hAr.free 65540
            have hA8 := hAr.put 65540 (.int .i64 ((R.vars : Int) + (l.length : Int))) (fun cs h => by rw [← Int.natCast_add]; exact h.setVars _)
            have cv8 := hA8.cVars
            simp only [Int.natCast_add] at cv8
            have g8 : w6.grownBy (wr.setCell ⟨r, 65540, none⟩ (.int .i64 ((R.vars : Int) + (l.length : Int)))) (some r) := gr.trans (grown_setCell wr ⟨r, 65540, none⟩ _)
            have hF8 := hF6.grown (by have := hF6.size; have := hR.size; have := hB.size; omega) g8 (fun k e => by cases e; exact .inl rfl)
            have cp8 := hA8.cPre
            clear hdL hdS hlt
            by_cases hov : 1024 < R.vars + l.length
            · have HP := hid (show addL R no (blockL 1 s) = (3, R) by
                rw [HL2.out]; unfold addL; simp only []
                rw [if_neg HNB.out, HDL.out]
                simp only []
                rw [if_pos hov])
              have hov2 : (1024 : Int) < (R.vars : Int) + (l.length : Int) := by omega
              clear hov
              go_wp2_with fail
              go_ret
              rw [HP.out]
              exact ⟨rfl, hF8, fun h => absurd h (by simp)⟩
            · have HP := hid (show addL R no (blockL 1 s) = (0, { R with seen := S, vars := R.vars + l.length, begun := true, pre := addBlock R.pre true l }) by
                rw [HL2.out]; unfold addL; simp only []
                rw [if_neg HNB.out, HDL.out]
                simp only []
                rw [if_neg hov]
                rfl)
              have hov2 : decide ((1024 : Int) < (R.vars : Int) + (l.length : Int)) = false := decide_eq_false (by omega)
              have HOV := hid hov
              clear hov
              have hKW : ∀ k, n0 ≤ k → k < wL.heap.size → (wr.setCell ⟨r, 65540, none⟩ (.int .i64 ((R.vars : Int) + (l.length : Int)))).heap[k]? = wL.heap[k]? := fun k hk hk2 => by
                have hne : k ≠ r := by have := hR.lt; omega
                rw [g8.block k (by have := g56.size; omega) (by intro e; injection e with e; exact hne e), g56.block k (by omega) (by intro e; injection e with e; exact hne e)]
                exact hK5 k hk2
              have hsW : wL.heap.size ≤ (wr.setCell ⟨r, 65540, none⟩ (.int .i64 ((R.vars : Int) + (l.length : Int)))).heap.size := by have := g8.size; have := g56.size; omega
              have hO8 := own_far hO6 g8 hrb
              have hw5s : w.heap.size ≤ (wr.setCell ⟨r, 65540, none⟩ (.int .i64 ((R.vars : Int) + (l.length : Int)))).heap.size := by have := hF8.size; omega
              obtain ⟨w8, hw8⟩ : ∃ w8, wr.setCell ⟨r, 65540, none⟩ (.int .i64 ((R.vars : Int) + (l.length : Int))) = w8 := ⟨_, rfl⟩
              rw [hw8] at hA8 cv8 g8 hF8 cp8 hKW hsW hO8 hw5s
              rcases hph with ⟨-, rfl, rfl, hg0, ha0, hOut⟩ | ⟨h0, _⟩
              · have hO8o : OutAt w8 n0 pv R.pre := hOut.keepB hsW hKW
                have hpb := hR.ok.pre
                have hI64 : ∀ x ∈ R.pre, ∀ y ∈ x.vars, I64 y := fun x hx y hy => by have := hpb x hx y hy; exact ⟨by omega, by omega⟩
                have hI64l : ∀ y ∈ l, I64 y := fun y hy => by have := hsm y hy; exact ⟨by omega, by omega⟩
                have hwLB : Below (cutW w8 wL.heap.size).heap.size (cutW w8 wL.heap.size) w8 := cutW_below hsW
                have hOutC : OutAt (cutW w8 wL.heap.size) n0 pv R.pre := hOut.keepB (by rw [cutW_size hsW]; exact Nat.le_refl _) (fun k hk hk2 => (cutW_at w8 _ k hk2).trans (hKW k hk hk2))
                obtain ⟨Ap, cp, rfl, hpl⟩ := hO8o.form
                obtain ⟨xs, hxs⟩ := hO8o.row
                have hpl2 : R.pre.length ≤ 4194305 := Nat.le_trans hR.ok.prel hno
                have HRest : Hid (∀ w' v', RdAt w' r v' (.slice none 0 0) (.slice none 0 0) { R with seen := S, vars := R.vars + l.length, begun := true, pre := addBlock R.pre true l } → OutAt w' n0 v' (addBlock R.pre true l) → w8.heap.size ≤ w'.heap.size →
                    Rdr w' n0 r { R with seen := S, vars := R.vars + l.length, begun := true, pre := addBlock R.pre true l } (no + 1)) := hid fun w' v' h1 h2 h3 => by
                  have hk := hR.ok
                  refine ⟨hR.nine, hR.lt, by have := hR.size; omega, ⟨?_, ?_, hk.lits, mem_add hk.pre (fun y hy => hsm y hy), ?_, Nat.le_succ_of_le hk.gl, hk.al, hk.gs, hk.out⟩, _, _, _, h1, .inl ⟨HD.out, rfl, rfl, hg0, ha0, h2⟩⟩
                  · have := HOV.out; simp only []; omega
                  · simp only [varsOf_add]; rw [hk.nv]
                  · have := len_add R.pre true l; have := hk.prel; simp only []; omega
                have HPL := hid hpl2
                by_cases hp0 : R.pre = []
                · skip
                  have hlen0 : R.pre.length = 0 := by rw [hp0]; rfl
                  have HOT := hid (show ∀ x, R.pre.getLast? = some x → x.ex ≠ true from fun x hx => by rw [hp0] at hx; cases hx)
                  rw [hlen0] at cp8 hA8 hxs hOutC hO8o
                  have HLEN := hid hlen0
                  have HP0 := hid hp0
                  clear hp0 hpl hlen0
                  have hneg : R.pre ≠ [] ∨ R.pre = [] := by by_cases h : R.pre = [] <;> simp [h]
                  clear hneg
                  by_cases hl0 : l = []
                  · have hz2 : ¬ (0 : Int) < (l.length : Int) := by rw [hl0]; simp
                    have hEq : addBlock R.pre true l = R.pre := by rw [addBlock_other HOT.out, if_pos hl0]
                    have HEq := hid hEq
                    clear hEq hl0
                    go_wp2_with fail
                    go_ret
                    rw [HP.out]
                    exact ⟨rfl, hF8, fun _ => HRest.out _ _ (by rw [HEq.out]; exact hA8) (by rw [HEq.out]; exact hO8o) (Nat.le_refl _)⟩
                  · have hz2 : (0 : Int) < (l.length : Int) := by have := List.length_pos_iff.2 hl0; omega
                    have hEq : addBlock R.pre true l = R.pre ++ [⟨true, l⟩] := by rw [addBlock_other HOT.out, if_neg hl0]
                    have HEq := hid hEq
                    have hbs : n0 ≤ w8.heap.size := by have := hR.size; omega
                    have hb32 : (0 + 1) * 32 ≤ 140737488355328 := by omega
                    clear hEq hl0
                    go_wp2_with (first | (at_builtin; refine append_one n0 rfl _ _ 37 71 (.agg #[.bool false, .slice none 0 0]) 2 32 rfl Tryz.underlying37 info80 rfl (by decide) (by decide) (.slice Ap 0 cp) 0 xs #[.bool true, .slice A l.length c] rfl rfl rfl (by intro u hu; simp at hu; rcases hu with rfl | rfl <;> rfl) hxs hbs hb32 ?_; intro g2 cap2 w9 hO9 hG9 hg9 hbg hlt9; have hA9 := hA8.grown hG9 (fun e => by have := (hxs.lt r e).1; have := hR.lt; omega); have cp9 := hA9.cPre; have fp9 := hA9.free 0) | fail)
                    go_ret
                    rw [HP.out]
                    have hown : ∀ k, (Value.slice Ap 0 cp).ownBlock = some k → n0 ≤ k := fun k e => (hxs.lt k e).1
                    have hr10 : w9.grownBy (w9.setCell ⟨r, 0, none⟩ (.slice (some ⟨g2, 0, none⟩) (0 + 1) cap2)) (some r) := grown_setCell w9 ⟨r, 0, none⟩ _
                    have hO10 : OutAt w9 n0 (.slice (some ⟨g2, 0, none⟩) (0 + 1) cap2) (R.pre ++ [⟨true, l⟩]) := by
                      refine OutAt.push (w := w8) hOutC hI64 hwLB (x2 := ⟨true, l⟩) (vl2 := .slice A l.length c) (own_lower hO8 (by have := hR.size; have := hB.size; omega)) (fun k e => by rw [cutW_size hsW]; have := (hO8.lt k e).1; have := hB.size; omega) (fun xs' h' => ?_) hG9 (fun k e => by cases e; exact hg9)
                      rw [HLEN.out] at h'
                      rw [HLEN.out, own_unique h' hxs]; exact hO9
                    refine ⟨rfl, (hF8.grown hbs hG9 (fun k e => .inr (hown k e))).grown (by have := hG9.size; omega) hr10 (fun k e => by cases e; exact .inl rfl), fun _ => HRest.out _ _ (hA9.put 0 _ (fun cs h => h.setPre _ _)) ?_ (Nat.le_trans hG9.size hr10.size)⟩
                    rw [HEq.out]
                    exact hO10.keepB hr10.size (fun k hk hk2 => hr10.block k hk2 (by intro e; injection e with e; have := hR.lt; omega))
                · skip
                  rcases hO8o with ⟨h0, -⟩ | ⟨init, y, vi, vl, e1, h2, h3, h4, h4b, h5⟩
                  · exact absurd h0 hp0
                  have hlen : R.pre.length = init.length + 1 := by rw [e1]; simp
                  obtain ⟨go, co2, eo, hgo1, hgo2, hgo3⟩ := own_form h3 (by omega)
                  injection eo with eo1 eo2 eo3
                  subst eo1
                  subst eo3
                  obtain ⟨ni, hni⟩ : ∃ ni, init.length = ni := ⟨_, rfl⟩
                  rw [hlen] at h3
                  obtain ⟨hl0, hl1⟩ := last_cells h2 h3
                  have hl2 := fun j => h3.frozenAt j
                  rw [hni] at hl0 hl1 hlen
                  have hxs' := hxs
                  have cp8' := cp8
                  rw [hlen] at cp8' hxs' hOutC hA8 HPL
                  have hgr : go ≠ r := by have := hR.lt; omega
                  have hw1 : IntKind.i64.wrap (ni : Int) = ni := IntWalk.i64_in _ (by omega)
                  have hm0 : 0 ≤ (ni : Int) := by omega
                  have hpl3 : ni + 1 ≤ 4194305 := by omega
                  have HLEN := hid hlen
                  have HE1 := hid e1
                  have H2 := hid h2
                  have H3 := hid h3
                  have H4 := hid h4
                  have H4B := hid h4b
                  have H5 := hid h5
                  have HNI := hid hni
                  clear cp8 hlen h2 h3 h4b h5 hni hp0 hpl hxs
                  have hyb : y.vars.length ≤ 1024 := by
                    have h1 := vars_len (p := R.pre) (x := y) (by rw [e1]; simp)
                    have := hR.ok.nv; omega
                  clear e1
                  by_cases hye : y.ex = true
                  · rw [hye] at hl0
                    have HYE := hid hye
                    clear hye h4
                    have h4 := H4.out
                    have hbs : n0 ≤ w8.heap.size := by have := hR.size; omega
                    have hb8 : (y.vars.length + l.length) * 8 ≤ 140737488355328 := by omega
                    go_wp2_with (first | (at_builtin; refine append_own n0 w.heap.size rfl _ _ rfl vl _ y.vars.length y.vars l.length l rfl rfl h4 hO8 hbs hb8 ?_; intro vl1 w9 hO9 hG9 hb9'; have hl1e : w9.cell? ⟨go, ni * 2 + 1, none⟩ = some vl := hG9.cell hl1 (by intro e; exact H4B.out go e.symm rfl); have hl2e := fun j => (H3.out.kept hG9 (by right; intro e; exact H4B.out go e.symm rfl)).frozenAt j; obtain ⟨A1, c1', rfl⟩ := own_shape hO9) | fail)
                    go_ret
                    rw [HP.out]
                    have hEq : addBlock R.pre true l = init ++ [⟨y.ex, y.vars ++ l⟩] := by rw [HE1.out, addBlock_same HYE.out]
                    have hvb : ∀ q, vl.ownBlock = some q → n0 ≤ q := fun q e => (h4.lt q e).1
                    have hcb : ∀ q, (Value.slice A1 (y.vars.length + l.length) c1').ownBlock = some q → vl.ownBlock = some q ∨ w8.heap.size ≤ q := fun q e => by
                      rcases hb9' with h | h
                      · exact .inl (h ▸ e)
                      · right; rw [h] at e; injection e with e; omega
                    have hO9' : w9.ownsRow n0 3 1 (.slice A1 (y.vars.length + l.length) c1') (y.vars ++ l).length (nums (y.vars ++ l)) := by rw [List.length_append]; exact hO9
                    have RR := OutAt.ext H2.out H3.out h4 (fun q hq e => H4B.out q hq (by rw [e]; rfl)) (fun i z v hz hv => by
                      obtain ⟨k1, k2⟩ := H5.out i z v hz hv
                      exact ⟨k1, fun q hq => ⟨(k2 q hq).1, (fun e => (k2 q hq).2.1 (by rw [e]; rfl)), (k2 q hq).2.2.1, (k2 q hq).2.2.2⟩⟩) hO9' hG9 hcb
                    rw [HNI.out] at RR
                    have hA9 := hA8.grown hG9 (fun e => by have := hvb r e; have := hR.lt; omega)
                    have g10 : w9.grownBy (w9.setCell ⟨go, ni * 2 + 1, none⟩ (.slice A1 (y.vars.length + l.length) c1')) (some go) := grown_setCell w9 ⟨go, ni * 2 + 1, none⟩ _
                    have hA10 := hA9.grown g10 (by intro e; injection e with e; exact hgr e)
                    obtain ⟨cs, hcs1, hcs2⟩ := hA10
                    refine ⟨rfl, (hF8.grown hbs hG9 (fun k e => .inr (hvb k e))).grown (by have := hG9.size; omega) g10 (fun k e => by cases e; exact .inr hgo1), fun _ => HRest.out _ _ ⟨cs, hcs1, ⟨hcs2.size, hcs2.pre, hcs2.gat, hcs2.out, hcs2.seen, hcs2.vars, hcs2.lits, hcs2.begun, hcs2.done, hcs2.at_, hcs2.outAt⟩⟩ (by rw [hEq]; exact RR) (Nat.le_trans hG9.size g10.size)⟩
                  · have HOT := hid (show ∀ x, R.pre.getLast? = some x → x.ex ≠ true from fun x hx => by rw [HE1.out, List.getLast?_concat] at hx; injection hx with hx; rw [← hx]; exact hye)
                    have hye2 : y.ex = false := by cases h : y.ex <;> simp_all
                    rw [hye2] at hl0
                    clear hye hye2
                    have hxs := hxs'
                    have hneg : R.pre ≠ [] ∨ R.pre = [] := by by_cases h : R.pre = [] <;> simp [h]
                    clear hneg
                    by_cases hl0 : l = []
                    · have hz2 : ¬ (0 : Int) < (l.length : Int) := by rw [hl0]; simp
                      have hEq : addBlock R.pre true l = R.pre := by rw [addBlock_other HOT.out, if_pos hl0]
                      have HEq := hid hEq
                      clear hEq hl0
                      go_wp2_with fail
                      go_ret
                      rw [HP.out]
                      exact ⟨rfl, hF8, fun _ => HRest.out _ _ (by rw [HEq.out]; exact hA8) (by rw [HEq.out]; exact (by have h9 := hOut.keepB hsW hKW; rw [HLEN.out] at h9; exact h9)) (Nat.le_refl _)⟩
                    · have hz2 : (0 : Int) < (l.length : Int) := by have := List.length_pos_iff.2 hl0; omega
                      have hEq : addBlock R.pre true l = R.pre ++ [⟨true, l⟩] := by rw [addBlock_other HOT.out, if_neg hl0]
                      have HEq := hid hEq
                      have hbs : n0 ≤ w8.heap.size := by have := hR.size; omega
                      have hb32 : (ni + 1 + 1) * 32 ≤ 140737488355328 := by omega
                      clear hEq hl0
                      go_wp2_with (first | (at_builtin; refine append_one n0 rfl _ _ 37 71 (.agg #[.bool false, .slice none 0 0]) 2 32 rfl Tryz.underlying37 info80 rfl (by decide) (by decide) (.slice (some ⟨go, 0, none⟩) (ni + 1) cp) (ni + 1) xs #[.bool true, .slice A l.length c] rfl rfl rfl (by intro u hu; simp at hu; rcases hu with rfl | rfl <;> rfl) hxs hbs hb32 ?_; intro g2 cap2 w9 hO9 hG9 hg9 hbg hlt9; have hA9 := hA8.grown hG9 (fun e => by have := (hxs.lt r e).1; have := hR.lt; omega); have cp9 := hA9.cPre; have fp9 := hA9.free 0) | fail)
                      go_ret
                      rw [HP.out]
                      have hown : ∀ k, (Value.slice (some ⟨go, 0, none⟩) (ni + 1) cp).ownBlock = some k → n0 ≤ k := fun k e => (hxs.lt k e).1
                      have hr10 : w9.grownBy (w9.setCell ⟨r, 0, none⟩ (.slice (some ⟨g2, 0, none⟩) ((ni + 1) + 1) cap2)) (some r) := grown_setCell w9 ⟨r, 0, none⟩ _
                      have hO10 : OutAt w9 n0 (.slice (some ⟨g2, 0, none⟩) ((ni + 1) + 1) cap2) (R.pre ++ [⟨true, l⟩]) := by
                        refine OutAt.push (w := w8) hOutC hI64 hwLB (x2 := ⟨true, l⟩) (vl2 := .slice A l.length c) (own_lower hO8 (by have := hR.size; have := hB.size; omega)) (fun k e => by rw [cutW_size hsW]; have := (hO8.lt k e).1; have := hB.size; omega) (fun xs' h' => ?_) hG9 (fun k e => by cases e; exact hg9)
                        rw [HLEN.out] at h'
                        rw [HLEN.out, own_unique h' hxs]; exact hO9
                      refine ⟨rfl, (hF8.grown hbs hG9 (fun k e => .inr (hown k e))).grown (by have := hG9.size; omega) hr10 (fun k e => by cases e; exact .inl rfl), fun _ => HRest.out _ _ (hA9.put 0 _ (fun cs h => h.setPre _ _)) ?_ (Nat.le_trans hG9.size hr10.size)⟩
                      rw [HEq.out]
                      exact hO10.keepB hr10.size (fun k hk hk2 => hr10.block k hk2 (by intro e; injection e with e; have := hR.lt; omega))
              · rw [HD.out] at h0; cases h0
set_option maxRecDepth 100000 in
set_option maxHeartbeats 2000000 in
theorem block2_any (n0 r b no : Nat) (R : RS) (s : Scan) (wL w : World) (hR : Rdr wL n0 r R no) (hB : Below wL.heap.size wL w) (hb : wL.heap.size ≤ b) (hs : ScanAt w b s) (hl : s.rest.length ≤ 4194304) (hE : Env w) (hno : no ≤ 4194305) :
    Calls Tryz.prog 84 #[.pointer (some ⟨r, 0, none⟩), .pointer (some ⟨b, 0, none⟩), .string ⟨#[101, 120, 105, 115, 116, 115]⟩] w fun e w' =>
      e = .returned (.int .i64 (addL R no (blockL 2 s)).1) ∧ Fr n0 r w w' ∧ ((addL R no (blockL 2 s)).1 = 0 → Rdr w' n0 r (addL R no (blockL 2 s)).2 (no + 1)) := by
  have hb9 : 9 ≤ b := by have := hR.nine; have := hR.lt; have := hR.size; omega
  have hbw := hs.lt
  have CL := list_num b w hb9 hE s hs hl
  have hsm := listP_small (fun s => numberP_bound s) s
  have hlen := listP_len numberP s
  have hLF : ∀ w1, w.grownBy w1 (some b) → Fr n0 r w w1 ∧ Below wL.heap.size wL w1 := fun w1 hg =>
    ⟨(Fr.refl n0 r w).grown (Nat.le_trans hR.size hB.size) hg (fun k e => by cases e; right; exact Nat.le_trans hR.size hb), hB.grown hg hB.size (fun k e => by cases e; exact hb)⟩
  have hBL : blockL 2 s = if (listP numberP s).2.ok = true then .block 2 (listP numberP s).1 else .bad := rfl
  generalize hls : listP numberP s = ls at *
  obtain ⟨l, ⟨r5, ok⟩⟩ := ls
  simp only [] at CL hsm hlen hBL
  clear hls
  obtain ⟨pv, gv, av, hA, hph⟩ := hR.mem
  have hrl := hA.lt
  have F : ∀ w1, Below wL.heap.size wL w1 → RdAt w1 r pv gv av R := fun w1 h => hA.heap (h.block r hrl)
  have HBL := hid hBL
  clear hBL
  cases ok with
  | false =>
    have HP := hid (show addL R no (blockL 2 s) = (5, R) by rw [HBL.out, if_neg (by simp)]; rfl)
    go_enter Tryz.func84, Tryz.ntmps84
    go_wp2_with (first | (go_at_call 126; refine CL.mono ?_; rintro e w5 ⟨A, c, rfl, h5, hg, hO⟩; have c1 := cell_row h5 (j := 1) rfl) | fail)
    go_ret
    rw [HP.out]
    exact ⟨rfl, (hLF w5 hg).1, fun h => absurd h (by simp)⟩
  | true =>
    have hL2 : blockL 2 s = .block 2 l := by rw [HBL.out, if_pos rfl]
    have HL2 := hid hL2
    clear hL2 HBL
    cases hd : R.done with
    | true =>
      have HP := hid (show addL R no (blockL 2 s) = (5, R) by rw [HL2.out]; unfold addL; simp only []; rw [if_pos (by simp [hd])])
      have HD := hid hd
      clear hd
      go_enter Tryz.func84, Tryz.ntmps84
      go_wp2_with (first | (go_at_call 126; refine CL.mono ?_; rintro e w5 ⟨A, c, rfl, h5, hg, hO⟩; have c1 := cell_row h5 (j := 1) rfl; have c2 := (F w5 (hLF w5 hg).2).cDone; rw [HD.out] at c2) | fail)
      go_ret
      rw [HP.out]
      exact ⟨rfl, (hLF w5 hg).1, fun h => absurd h (by simp)⟩
    | false =>
      have HD := hid hd
      clear hd
      have HNB : Hid (¬ (R.done = true ∨ 2 = 1 ∧ R.begun = true)) := hid (by rw [HD.out]; simp)
      go_enter Tryz.func84, Tryz.ntmps84
      go_wp2_with fail
      go_at_call 126
      refine CL.mono ?_
      rintro e w5 ⟨A, c, rfl, h5, hg, hO⟩
      have c1 := cell_row h5 (j := 1) rfl
      have hA5 := F w5 (hLF w5 hg).2
      have c2 := hA5.cDone
      rw [HD.out] at c2
      have c3 := hA5.cBegun
      have f3 := hA5.free 65542
      have hA6 := hA5.put 65542 (.bool true) (fun cs h => h.setBegun true)
      have g56 : w5.grownBy (w5.setCell ⟨r, 65542, none⟩ (.bool true)) (some r) := grown_setCell w5 ⟨r, 65542, none⟩ _
      have hll : l.length ≤ 4194306 := by omega
      clear CL F
      go_wp2_with fail
      clear c1 c2 c3 f3
      have hO6 := own_far hO g56 (by have := hR.lt; have := hR.size; have := hB.size; omega)
      have hB5 := (hLF w5 hg).2
      have hF6 : Fr n0 r w (w5.setCell ⟨r, 65542, none⟩ (.bool true)) := (hLF w5 hg).1.grown (Nat.le_trans hR.size hB5.size) g56 (fun k e => by cases e; exact .inl rfl)
      have hs5 : wL.heap.size ≤ w5.heap.size := hB5.size
      have hK5 : ∀ k, k < wL.heap.size → w5.heap[k]? = wL.heap[k]? := hB5.block
      have hrb : r < w.heap.size := by have := hR.lt; have := hR.size; have := hB.size; omega
      generalize (w5.setCell ⟨r, 65542, none⟩ (.bool true)) = w6 at *
      clear hA5 hB5 h5 hg
      go_loopg [42] l.length (fun gg s42 wr => ∃ (j : Nat) (S : Nat → Bool), j ≤ l.length ∧ l.length - j ≤ gg ∧ s42 = .int .i64 j ∧ Hid (declP R.seen (l.take j) = some S) ∧ RdAt wr r pv gv av { R with begun := true, seen := S } ∧ w6.grownBy wr (some r))
      case atStart => exact ⟨0, R.seen, Nat.zero_le _, by omega, rfl, hid (by simp [declP]), hA6, World.grownBy.refl _ _⟩
      case round =>
        obtain ⟨j, S, hj, hgk, rfl, hdS, hAr, gr⟩ := hrel
        have hOr := own_far hO6 gr hrb
        by_cases hlt : j < l.length
        · have hltz : (j : Int) < (l.length : Int) := by omega
          obtain ⟨x, hx, hxm, -⟩ := nth hlt
          have hxb := hsm x hxm
          obtain ⟨xn, rfl⟩ : ∃ k : Nat, x = (k : Int) := ⟨x.toNat, by omega⟩
          obtain ⟨g, cap, hAc, hg1, hg2, hg3⟩ := own_form hOr (by omega)
          cases hAc
          have cx : wr.cell? ⟨g, j, none⟩ = some (.int .i64 (xn : Int)) := (hOr.cellAt j (by omega)).trans (nums_get hx)
          have CD := declare_any r pv gv av _ xn wr hAr (by omega)
          simp only [] at CD
          have HX := hid hx
          cases hS : S xn with
          | true =>
            rw [hS] at CD
            have HP := hid (show addL R no (blockL 2 s) = (7, R) by
              rw [HL2.out]; unfold addL; simp only []
              rw [if_neg HNB.out, declP_bad l R.seen S j _ hdS.out HX.out (by rw [Int.toNat_natCast]; exact hS)])
            clear hS hx
            go_wp2_with (first | (go_at_call 128; refine CD.mono ?_; rintro e w7 ⟨rfl, hA7, g67⟩) | fail)
            go_ret
            rw [HP.out]
            exact ⟨rfl, (hF6.grown (by have := hF6.size; have := hR.size; have := hB.size; omega) gr (fun k e => by cases e; exact .inl rfl)).grown (by have := hF6.size; have := gr.size; have := hR.size; have := hB.size; omega) g67 (fun k e => by cases e; exact .inl rfl), fun h => absurd h (by simp)⟩
          | false =>
            rw [hS] at CD
            have HN := hid (declP_next l R.seen S j _ hdS.out hx (by rw [Int.toNat_natCast]; exact hS))
            clear hS hx
            go_wp2_with (first | (go_at_call 128; refine CD.mono ?_; rintro e w7 ⟨rfl, hA7, g67⟩) | fail)
            go_roundg (l.length - (j + 1))
            case measure => omega
            case rel => exact ⟨j + 1, _, by omega, by omega, by go_num, HN, hA7, gr.trans g67⟩
        · have hltz : ¬ (j : Int) < (l.length : Int) := by omega
          have hdL : declP R.seen l = some S := by have := hdS.out; rwa [List.take_of_length_le (by omega)] at this
          have HDL := hid hdL
          have hvv : R.vars ≤ 1024 := hR.ok.vars
          have cv := hAr.cVars
          simp only [] at cv
          have fv := hAr.free 65540
          have hA8 := hAr.put 65540 (.int .i64 ((R.vars : Int) + (l.length : Int))) (fun cs h => by rw [← Int.natCast_add]; exact h.setVars _)
          have cv8 := hA8.cVars
          simp only [Int.natCast_add] at cv8
          have g8 : w6.grownBy (wr.setCell ⟨r, 65540, none⟩ (.int .i64 ((R.vars : Int) + (l.length : Int)))) (some r) := gr.trans (grown_setCell wr ⟨r, 65540, none⟩ _)
          have hF8 := hF6.grown (by have := hF6.size; have := hR.size; have := hB.size; omega) g8 (fun k e => by cases e; exact .inl rfl)
          have cp8 := hA8.cPre
          clear hdL hdS hlt
          by_cases hov : 1024 < R.vars + l.length
          · have HP := hid (show addL R no (blockL 2 s) = (3, R) by
              rw [HL2.out]; unfold addL; simp only []
              rw [if_neg HNB.out, HDL.out]
              simp only []
              rw [if_pos hov])
            have hov2 : (1024 : Int) < (R.vars : Int) + (l.length : Int) := by omega
            clear hov
            go_wp2_with fail
            go_ret
            rw [HP.out]
            exact ⟨rfl, hF8, fun h => absurd h (by simp)⟩
          · have HP := hid (show addL R no (blockL 2 s) = (0, { R with seen := S, vars := R.vars + l.length, begun := true, pre := addBlock R.pre true l }) by
              rw [HL2.out]; unfold addL; simp only []
              rw [if_neg HNB.out, HDL.out]
              simp only []
              rw [if_neg hov]
              rfl)
            have hov2 : decide ((1024 : Int) < (R.vars : Int) + (l.length : Int)) = false := decide_eq_false (by omega)
            have HOV := hid hov
            clear hov
            have hKW : ∀ k, n0 ≤ k → k < wL.heap.size → (wr.setCell ⟨r, 65540, none⟩ (.int .i64 ((R.vars : Int) + (l.length : Int)))).heap[k]? = wL.heap[k]? := fun k hk hk2 => by
              have hne : k ≠ r := by have := hR.lt; omega
              rw [g8.block k (by have := g56.size; omega) (by intro e; injection e with e; exact hne e), g56.block k (by omega) (by intro e; injection e with e; exact hne e)]
              exact hK5 k hk2
            have hsW : wL.heap.size ≤ (wr.setCell ⟨r, 65540, none⟩ (.int .i64 ((R.vars : Int) + (l.length : Int)))).heap.size := by have := g8.size; have := g56.size; omega
            have hO8 := own_far hO6 g8 hrb
            have hw5s : w.heap.size ≤ (wr.setCell ⟨r, 65540, none⟩ (.int .i64 ((R.vars : Int) + (l.length : Int)))).heap.size := by have := hF8.size; omega
            obtain ⟨w8, hw8⟩ : ∃ w8, wr.setCell ⟨r, 65540, none⟩ (.int .i64 ((R.vars : Int) + (l.length : Int))) = w8 := ⟨_, rfl⟩
            rw [hw8] at hA8 cv8 g8 hF8 cp8 hKW hsW hO8 hw5s
            rcases hph with ⟨-, rfl, rfl, hg0, ha0, hOut⟩ | ⟨h0, _⟩
            · have hO8o : OutAt w8 n0 pv R.pre := hOut.keepB hsW hKW
              have hpb := hR.ok.pre
              have hI64 : ∀ x ∈ R.pre, ∀ y ∈ x.vars, I64 y := fun x hx y hy => by have := hpb x hx y hy; exact ⟨by omega, by omega⟩
              have hI64l : ∀ y ∈ l, I64 y := fun y hy => by have := hsm y hy; exact ⟨by omega, by omega⟩
              have hwLB : Below (cutW w8 wL.heap.size).heap.size (cutW w8 wL.heap.size) w8 := cutW_below hsW
              have hOutC : OutAt (cutW w8 wL.heap.size) n0 pv R.pre := hOut.keepB (by rw [cutW_size hsW]; exact Nat.le_refl _) (fun k hk hk2 => (cutW_at w8 _ k hk2).trans (hKW k hk hk2))
              obtain ⟨Ap, cp, rfl, hpl⟩ := hO8o.form
              obtain ⟨xs, hxs⟩ := hO8o.row
              have hpl2 : R.pre.length ≤ 4194305 := Nat.le_trans hR.ok.prel hno
              have HRest : Hid (∀ w' v', RdAt w' r v' (.slice none 0 0) (.slice none 0 0) { R with seen := S, vars := R.vars + l.length, begun := true, pre := addBlock R.pre true l } → OutAt w' n0 v' (addBlock R.pre true l) → w8.heap.size ≤ w'.heap.size →
                  Rdr w' n0 r { R with seen := S, vars := R.vars + l.length, begun := true, pre := addBlock R.pre true l } (no + 1)) := hid fun w' v' h1 h2 h3 => by
                have hk := hR.ok
                refine ⟨hR.nine, hR.lt, by have := hR.size; omega, ⟨?_, ?_, hk.lits, mem_add hk.pre (fun y hy => hsm y hy), ?_, Nat.le_succ_of_le hk.gl, hk.al, hk.gs, hk.out⟩, _, _, _, h1, .inl ⟨HD.out, rfl, rfl, hg0, ha0, h2⟩⟩
                · have := HOV.out; simp only []; omega
                · simp only [varsOf_add]; rw [hk.nv]
                · have := len_add R.pre true l; have := hk.prel; simp only []; omega
              have HPL := hid hpl2
              by_cases hp0 : R.pre = []
              · skip
                have hlen0 : R.pre.length = 0 := by rw [hp0]; rfl
                have HOT := hid (show ∀ x, R.pre.getLast? = some x → x.ex ≠ true from fun x hx => by rw [hp0] at hx; cases hx)
                rw [hlen0] at cp8 hA8 hxs hOutC hO8o
                have HLEN := hid hlen0
                have HP0 := hid hp0
                clear hp0 hpl hlen0
                have hneg : R.pre ≠ [] ∨ R.pre = [] := by by_cases h : R.pre = [] <;> simp [h]
                clear hneg
                by_cases hl0 : l = []
                · have hz2 : ¬ (0 : Int) < (l.length : Int) := by rw [hl0]; simp
                  have hEq : addBlock R.pre true l = R.pre := by rw [addBlock_other HOT.out, if_pos hl0]
                  have HEq := hid hEq
                  clear hEq hl0
                  go_wp2_with fail
                  go_ret
                  rw [HP.out]
                  exact ⟨rfl, hF8, fun _ => HRest.out _ _ (by rw [HEq.out]; exact hA8) (by rw [HEq.out]; exact hO8o) (Nat.le_refl _)⟩
                · have hz2 : (0 : Int) < (l.length : Int) := by have := List.length_pos_iff.2 hl0; omega
                  have hEq : addBlock R.pre true l = R.pre ++ [⟨true, l⟩] := by rw [addBlock_other HOT.out, if_neg hl0]
                  have HEq := hid hEq
                  have hbs : n0 ≤ w8.heap.size := by have := hR.size; omega
                  have hb32 : (0 + 1) * 32 ≤ 140737488355328 := by omega
                  clear hEq hl0
                  go_wp2_with (first | (at_builtin; refine append_one n0 rfl _ _ 37 71 (.agg #[.bool false, .slice none 0 0]) 2 32 rfl Tryz.underlying37 info80 rfl (by decide) (by decide) (.slice Ap 0 cp) 0 xs #[.bool true, .slice A l.length c] rfl rfl rfl (by intro u hu; simp at hu; rcases hu with rfl | rfl <;> rfl) hxs hbs hb32 ?_; intro g2 cap2 w9 hO9 hG9 hg9 hbg hlt9; have hA9 := hA8.grown hG9 (fun e => by have := (hxs.lt r e).1; have := hR.lt; omega); have cp9 := hA9.cPre; have fp9 := hA9.free 0) | fail)
                  go_ret
                  rw [HP.out]
                  have hown : ∀ k, (Value.slice Ap 0 cp).ownBlock = some k → n0 ≤ k := fun k e => (hxs.lt k e).1
                  have hr10 : w9.grownBy (w9.setCell ⟨r, 0, none⟩ (.slice (some ⟨g2, 0, none⟩) (0 + 1) cap2)) (some r) := grown_setCell w9 ⟨r, 0, none⟩ _
                  have hO10 : OutAt w9 n0 (.slice (some ⟨g2, 0, none⟩) (0 + 1) cap2) (R.pre ++ [⟨true, l⟩]) := by
                    refine OutAt.push (w := w8) hOutC hI64 hwLB (x2 := ⟨true, l⟩) (vl2 := .slice A l.length c) (own_lower hO8 (by have := hR.size; have := hB.size; omega)) (fun k e => by rw [cutW_size hsW]; have := (hO8.lt k e).1; have := hB.size; omega) (fun xs' h' => ?_) hG9 (fun k e => by cases e; exact hg9)
                    rw [HLEN.out] at h'
                    rw [HLEN.out, own_unique h' hxs]; exact hO9
                  refine ⟨rfl, (hF8.grown hbs hG9 (fun k e => .inr (hown k e))).grown (by have := hG9.size; omega) hr10 (fun k e => by cases e; exact .inl rfl), fun _ => HRest.out _ _ (hA9.put 0 _ (fun cs h => h.setPre _ _)) ?_ (Nat.le_trans hG9.size hr10.size)⟩
                  rw [HEq.out]
                  exact hO10.keepB hr10.size (fun k hk hk2 => hr10.block k hk2 (by intro e; injection e with e; have := hR.lt; omega))
              · skip
                rcases hO8o with ⟨h0, -⟩ | ⟨init, y, vi, vl, e1, h2, h3, h4, h4b, h5⟩
                · exact absurd h0 hp0
                have hlen : R.pre.length = init.length + 1 := by rw [e1]; simp
                obtain ⟨go, co2, eo, hgo1, hgo2, hgo3⟩ := own_form h3 (by omega)
                injection eo with eo1 eo2 eo3
                subst eo1
                subst eo3
                obtain ⟨ni, hni⟩ : ∃ ni, init.length = ni := ⟨_, rfl⟩
                rw [hlen] at h3
                obtain ⟨hl0, hl1⟩ := last_cells h2 h3
                have hl2 := fun j => h3.frozenAt j
                rw [hni] at hl0 hl1 hlen
                have hxs' := hxs
                have cp8' := cp8
                rw [hlen] at cp8' hxs' hOutC hA8 HPL
                have hgr : go ≠ r := by have := hR.lt; omega
                have hw1 : IntKind.i64.wrap (ni : Int) = ni := IntWalk.i64_in _ (by omega)
                have hm0 : 0 ≤ (ni : Int) := by omega
                have hpl3 : ni + 1 ≤ 4194305 := by omega
                have HLEN := hid hlen
                have HE1 := hid e1
                have H2 := hid h2
                have H3 := hid h3
                have H4 := hid h4
                have H4B := hid h4b
                have H5 := hid h5
                have HNI := hid hni
                clear cp8 hlen h2 h3 h4b h5 hni hp0 hpl hxs
                have hyb : y.vars.length ≤ 1024 := by
                  have h1 := vars_len (p := R.pre) (x := y) (by rw [e1]; simp)
                  have := hR.ok.nv; omega
                clear e1
                by_cases hye : y.ex = true
                · rw [hye] at hl0
                  have HYE := hid hye
                  clear hye h4
                  have h4 := H4.out
                  have hbs : n0 ≤ w8.heap.size := by have := hR.size; omega
                  have hb8 : (y.vars.length + l.length) * 8 ≤ 140737488355328 := by omega
                  go_wp2_with (first | (at_builtin; refine append_own n0 w.heap.size rfl _ _ rfl vl _ y.vars.length y.vars l.length l rfl rfl h4 hO8 hbs hb8 ?_; intro vl1 w9 hO9 hG9 hb9'; have hl1e : w9.cell? ⟨go, ni * 2 + 1, none⟩ = some vl := hG9.cell hl1 (by intro e; exact H4B.out go e.symm rfl); have hl2e := fun j => (H3.out.kept hG9 (by right; intro e; exact H4B.out go e.symm rfl)).frozenAt j; obtain ⟨A1, c1', rfl⟩ := own_shape hO9) | fail)
                  go_ret
                  rw [HP.out]
                  have hEq : addBlock R.pre true l = init ++ [⟨y.ex, y.vars ++ l⟩] := by rw [HE1.out, addBlock_same HYE.out]
                  have hvb : ∀ q, vl.ownBlock = some q → n0 ≤ q := fun q e => (h4.lt q e).1
                  have hcb : ∀ q, (Value.slice A1 (y.vars.length + l.length) c1').ownBlock = some q → vl.ownBlock = some q ∨ w8.heap.size ≤ q := fun q e => by
                    rcases hb9' with h | h
                    · exact .inl (h ▸ e)
                    · right; rw [h] at e; injection e with e; omega
                  have hO9' : w9.ownsRow n0 3 1 (.slice A1 (y.vars.length + l.length) c1') (y.vars ++ l).length (nums (y.vars ++ l)) := by rw [List.length_append]; exact hO9
                  have RR := OutAt.ext H2.out H3.out h4 (fun q hq e => H4B.out q hq (by rw [e]; rfl)) (fun i z v hz hv => by
                    obtain ⟨k1, k2⟩ := H5.out i z v hz hv
                    exact ⟨k1, fun q hq => ⟨(k2 q hq).1, (fun e => (k2 q hq).2.1 (by rw [e]; rfl)), (k2 q hq).2.2.1, (k2 q hq).2.2.2⟩⟩) hO9' hG9 hcb
                  rw [HNI.out] at RR
                  have hA9 := hA8.grown hG9 (fun e => by have := hvb r e; have := hR.lt; omega)
                  have g10 : w9.grownBy (w9.setCell ⟨go, ni * 2 + 1, none⟩ (.slice A1 (y.vars.length + l.length) c1')) (some go) := grown_setCell w9 ⟨go, ni * 2 + 1, none⟩ _
                  have hA10 := hA9.grown g10 (by intro e; injection e with e; exact hgr e)
                  obtain ⟨cs, hcs1, hcs2⟩ := hA10
                  refine ⟨rfl, (hF8.grown hbs hG9 (fun k e => .inr (hvb k e))).grown (by have := hG9.size; omega) g10 (fun k e => by cases e; exact .inr hgo1), fun _ => HRest.out _ _ ⟨cs, hcs1, ⟨hcs2.size, hcs2.pre, hcs2.gat, hcs2.out, hcs2.seen, hcs2.vars, hcs2.lits, hcs2.begun, hcs2.done, hcs2.at_, hcs2.outAt⟩⟩ (by rw [hEq]; exact RR) (Nat.le_trans hG9.size g10.size)⟩
                · have HOT := hid (show ∀ x, R.pre.getLast? = some x → x.ex ≠ true from fun x hx => by rw [HE1.out, List.getLast?_concat] at hx; injection hx with hx; rw [← hx]; exact hye)
                  have hye2 : y.ex = false := by cases h : y.ex <;> simp_all
                  rw [hye2] at hl0
                  clear hye hye2
                  have hxs := hxs'
                  have hneg : R.pre ≠ [] ∨ R.pre = [] := by by_cases h : R.pre = [] <;> simp [h]
                  clear hneg
                  by_cases hl0 : l = []
                  · have hz2 : ¬ (0 : Int) < (l.length : Int) := by rw [hl0]; simp
                    have hEq : addBlock R.pre true l = R.pre := by rw [addBlock_other HOT.out, if_pos hl0]
                    have HEq := hid hEq
                    clear hEq hl0
                    go_wp2_with fail
                    go_ret
                    rw [HP.out]
                    exact ⟨rfl, hF8, fun _ => HRest.out _ _ (by rw [HEq.out]; exact hA8) (by rw [HEq.out]; exact (by have h9 := hOut.keepB hsW hKW; rw [HLEN.out] at h9; exact h9)) (Nat.le_refl _)⟩
                  · have hz2 : (0 : Int) < (l.length : Int) := by have := List.length_pos_iff.2 hl0; omega
                    have hEq : addBlock R.pre true l = R.pre ++ [⟨true, l⟩] := by rw [addBlock_other HOT.out, if_neg hl0]
                    have HEq := hid hEq
                    have hbs : n0 ≤ w8.heap.size := by have := hR.size; omega
                    have hb32 : (ni + 1 + 1) * 32 ≤ 140737488355328 := by omega
                    clear hEq hl0
                    go_wp2_with (first | (at_builtin; refine append_one n0 rfl _ _ 37 71 (.agg #[.bool false, .slice none 0 0]) 2 32 rfl Tryz.underlying37 info80 rfl (by decide) (by decide) (.slice (some ⟨go, 0, none⟩) (ni + 1) cp) (ni + 1) xs #[.bool true, .slice A l.length c] rfl rfl rfl (by intro u hu; simp at hu; rcases hu with rfl | rfl <;> rfl) hxs hbs hb32 ?_; intro g2 cap2 w9 hO9 hG9 hg9 hbg hlt9; have hA9 := hA8.grown hG9 (fun e => by have := (hxs.lt r e).1; have := hR.lt; omega); have cp9 := hA9.cPre; have fp9 := hA9.free 0) | fail)
                    go_ret
                    rw [HP.out]
                    have hown : ∀ k, (Value.slice (some ⟨go, 0, none⟩) (ni + 1) cp).ownBlock = some k → n0 ≤ k := fun k e => (hxs.lt k e).1
                    have hr10 : w9.grownBy (w9.setCell ⟨r, 0, none⟩ (.slice (some ⟨g2, 0, none⟩) ((ni + 1) + 1) cap2)) (some r) := grown_setCell w9 ⟨r, 0, none⟩ _
                    have hO10 : OutAt w9 n0 (.slice (some ⟨g2, 0, none⟩) ((ni + 1) + 1) cap2) (R.pre ++ [⟨true, l⟩]) := by
                      refine OutAt.push (w := w8) hOutC hI64 hwLB (x2 := ⟨true, l⟩) (vl2 := .slice A l.length c) (own_lower hO8 (by have := hR.size; have := hB.size; omega)) (fun k e => by rw [cutW_size hsW]; have := (hO8.lt k e).1; have := hB.size; omega) (fun xs' h' => ?_) hG9 (fun k e => by cases e; exact hg9)
                      rw [HLEN.out] at h'
                      rw [HLEN.out, own_unique h' hxs]; exact hO9
                    refine ⟨rfl, (hF8.grown hbs hG9 (fun k e => .inr (hown k e))).grown (by have := hG9.size; omega) hr10 (fun k e => by cases e; exact .inl rfl), fun _ => HRest.out _ _ (hA9.put 0 _ (fun cs h => h.setPre _ _)) ?_ (Nat.le_trans hG9.size hr10.size)⟩
                    rw [HEq.out]
                    exact hO10.keepB hr10.size (fun k hk hk2 => hr10.block k hk2 (by intro e; injection e with e; have := hR.lt; omega))
            · rw [HD.out] at h0; cases h0
set_option maxRecDepth 100000 in
set_option maxHeartbeats 2000000 in
theorem block3_any (n0 r b no : Nat) (R : RS) (s : Scan) (wL w : World) (hR : Rdr wL n0 r R no) (hB : Below wL.heap.size wL w) (hb : wL.heap.size ≤ b) (hs : ScanAt w b s) (hl : s.rest.length ≤ 4194304) (hE : Env w) (hno : no ≤ 4194305) :
    Calls Tryz.prog 84 #[.pointer (some ⟨r, 0, none⟩), .pointer (some ⟨b, 0, none⟩), .string ⟨#[102, 111, 114, 97, 108, 108]⟩] w fun e w' =>
      e = .returned (.int .i64 (addL R no (blockL 3 s)).1) ∧ Fr n0 r w w' ∧ ((addL R no (blockL 3 s)).1 = 0 → Rdr w' n0 r (addL R no (blockL 3 s)).2 (no + 1)) := by
  have hb9 : 9 ≤ b := by have := hR.nine; have := hR.lt; have := hR.size; omega
  have hbw := hs.lt
  have CL := list_num b w hb9 hE s hs hl
  have hsm := listP_small (fun s => numberP_bound s) s
  have hlen := listP_len numberP s
  have hLF : ∀ w1, w.grownBy w1 (some b) → Fr n0 r w w1 ∧ Below wL.heap.size wL w1 := fun w1 hg =>
    ⟨(Fr.refl n0 r w).grown (Nat.le_trans hR.size hB.size) hg (fun k e => by cases e; right; exact Nat.le_trans hR.size hb), hB.grown hg hB.size (fun k e => by cases e; exact hb)⟩
  have hBL : blockL 3 s = if (listP numberP s).2.ok = true then .block 3 (listP numberP s).1 else .bad := rfl
  generalize hls : listP numberP s = ls at *
  obtain ⟨l, ⟨r5, ok⟩⟩ := ls
  simp only [] at CL hsm hlen hBL
  clear hls
  obtain ⟨pv, gv, av, hA, hph⟩ := hR.mem
  have hrl := hA.lt
  have F : ∀ w1, Below wL.heap.size wL w1 → RdAt w1 r pv gv av R := fun w1 h => hA.heap (h.block r hrl)
  have HBL := hid hBL
  clear hBL
  cases ok with
  | false =>
    have HP := hid (show addL R no (blockL 3 s) = (5, R) by rw [HBL.out, if_neg (by simp)]; rfl)
    go_enter Tryz.func84, Tryz.ntmps84
    go_wp2_with (first | (go_at_call 126; refine CL.mono ?_; rintro e w5 ⟨A, c, rfl, h5, hg, hO⟩; have c1 := cell_row h5 (j := 1) rfl) | fail)
    go_ret
    rw [HP.out]
    exact ⟨rfl, (hLF w5 hg).1, fun h => absurd h (by simp)⟩
  | true =>
    have hL2 : blockL 3 s = .block 3 l := by rw [HBL.out, if_pos rfl]
    have HL2 := hid hL2
    clear hL2 HBL
    cases hd : R.done with
    | true =>
      have HP := hid (show addL R no (blockL 3 s) = (5, R) by rw [HL2.out]; unfold addL; simp only []; rw [if_pos (by simp [hd])])
      have HD := hid hd
      clear hd
      go_enter Tryz.func84, Tryz.ntmps84
      go_wp2_with (first | (go_at_call 126; refine CL.mono ?_; rintro e w5 ⟨A, c, rfl, h5, hg, hO⟩; have c1 := cell_row h5 (j := 1) rfl; have c2 := (F w5 (hLF w5 hg).2).cDone; rw [HD.out] at c2) | fail)
      go_ret
      rw [HP.out]
      exact ⟨rfl, (hLF w5 hg).1, fun h => absurd h (by simp)⟩
    | false =>
      have HD := hid hd
      clear hd
      have HNB : Hid (¬ (R.done = true ∨ 3 = 1 ∧ R.begun = true)) := hid (by rw [HD.out]; simp)
      go_enter Tryz.func84, Tryz.ntmps84
      go_wp2_with fail
      go_at_call 126
      refine CL.mono ?_
      rintro e w5 ⟨A, c, rfl, h5, hg, hO⟩
      have c1 := cell_row h5 (j := 1) rfl
      have hA5 := F w5 (hLF w5 hg).2
      have c2 := hA5.cDone
      rw [HD.out] at c2
      have c3 := hA5.cBegun
      have f3 := hA5.free 65542
      have hA6 := hA5.put 65542 (.bool true) (fun cs h => h.setBegun true)
      have g56 : w5.grownBy (w5.setCell ⟨r, 65542, none⟩ (.bool true)) (some r) := grown_setCell w5 ⟨r, 65542, none⟩ _
      have hll : l.length ≤ 4194306 := by omega
      clear CL F
      go_wp2_with fail
      clear c1 c2 c3 f3
      have hO6 := own_far hO g56 (by have := hR.lt; have := hR.size; have := hB.size; omega)
      have hB5 := (hLF w5 hg).2
      have hF6 : Fr n0 r w (w5.setCell ⟨r, 65542, none⟩ (.bool true)) := (hLF w5 hg).1.grown (Nat.le_trans hR.size hB5.size) g56 (fun k e => by cases e; exact .inl rfl)
      have hs5 : wL.heap.size ≤ w5.heap.size := hB5.size
      have hK5 : ∀ k, k < wL.heap.size → w5.heap[k]? = wL.heap[k]? := hB5.block
      have hrb : r < w.heap.size := by have := hR.lt; have := hR.size; have := hB.size; omega
      generalize (w5.setCell ⟨r, 65542, none⟩ (.bool true)) = w6 at *
      clear hA5 hB5 h5 hg
      go_loopg [42] l.length (fun gg s42 wr => ∃ (j : Nat) (S : Nat → Bool), j ≤ l.length ∧ l.length - j ≤ gg ∧ s42 = .int .i64 j ∧ Hid (declP R.seen (l.take j) = some S) ∧ RdAt wr r pv gv av { R with begun := true, seen := S } ∧ w6.grownBy wr (some r))
      case atStart => exact ⟨0, R.seen, Nat.zero_le _, by omega, rfl, hid (by simp [declP]), hA6, World.grownBy.refl _ _⟩
      case round =>
        obtain ⟨j, S, hj, hgk, rfl, hdS, hAr, gr⟩ := hrel
        have hOr := own_far hO6 gr hrb
        by_cases hlt : j < l.length
        · have hltz : (j : Int) < (l.length : Int) := by omega
          obtain ⟨x, hx, hxm, -⟩ := nth hlt
          have hxb := hsm x hxm
          obtain ⟨xn, rfl⟩ : ∃ k : Nat, x = (k : Int) := ⟨x.toNat, by omega⟩
          obtain ⟨g, cap, hAc, hg1, hg2, hg3⟩ := own_form hOr (by omega)
          cases hAc
          have cx : wr.cell? ⟨g, j, none⟩ = some (.int .i64 (xn : Int)) := (hOr.cellAt j (by omega)).trans (nums_get hx)
          have CD := declare_any r pv gv av _ xn wr hAr (by omega)
          simp only [] at CD
          have HX := hid hx
          cases hS : S xn with
          | true =>
            rw [hS] at CD
            have HP := hid (show addL R no (blockL 3 s) = (7, R) by
              rw [HL2.out]; unfold addL; simp only []
              rw [if_neg HNB.out, declP_bad l R.seen S j _ hdS.out HX.out (by rw [Int.toNat_natCast]; exact hS)])
            clear hS hx
            go_wp2_with (first | (go_at_call 128; refine CD.mono ?_; rintro e w7 ⟨rfl, hA7, g67⟩) | fail)
            go_ret
            rw [HP.out]
            exact ⟨rfl, (hF6.grown (by have := hF6.size; have := hR.size; have := hB.size; omega) gr (fun k e => by cases e; exact .inl rfl)).grown (by have := hF6.size; have := gr.size; have := hR.size; have := hB.size; omega) g67 (fun k e => by cases e; exact .inl rfl), fun h => absurd h (by simp)⟩
          | false =>
            rw [hS] at CD
            have HN := hid (declP_next l R.seen S j _ hdS.out hx (by rw [Int.toNat_natCast]; exact hS))
            clear hS hx
            go_wp2_with (first | (go_at_call 128; refine CD.mono ?_; rintro e w7 ⟨rfl, hA7, g67⟩) | fail)
            go_roundg (l.length - (j + 1))
            case measure => omega
            case rel => exact ⟨j + 1, _, by omega, by omega, by go_num, HN, hA7, gr.trans g67⟩
        · have hltz : ¬ (j : Int) < (l.length : Int) := by omega
          have hdL : declP R.seen l = some S := by have := hdS.out; rwa [List.take_of_length_le (by omega)] at this
          have HDL := hid hdL
          have hvv : R.vars ≤ 1024 := hR.ok.vars
          have cv := hAr.cVars
          simp only [] at cv
          have fv := hAr.free 65540
          have hA8 := hAr.put 65540 (.int .i64 ((R.vars : Int) + (l.length : Int))) (fun cs h => by rw [← Int.natCast_add]; exact h.setVars _)
          have cv8 := hA8.cVars
          simp only [Int.natCast_add] at cv8
          have g8 : w6.grownBy (wr.setCell ⟨r, 65540, none⟩ (.int .i64 ((R.vars : Int) + (l.length : Int)))) (some r) := gr.trans (grown_setCell wr ⟨r, 65540, none⟩ _)
          have hF8 := hF6.grown (by have := hF6.size; have := hR.size; have := hB.size; omega) g8 (fun k e => by cases e; exact .inl rfl)
          have cp8 := hA8.cPre
          clear hdL hdS hlt
          by_cases hov : 1024 < R.vars + l.length
          · have HP := hid (show addL R no (blockL 3 s) = (3, R) by
              rw [HL2.out]; unfold addL; simp only []
              rw [if_neg HNB.out, HDL.out]
              simp only []
              rw [if_pos hov])
            have hov2 : (1024 : Int) < (R.vars : Int) + (l.length : Int) := by omega
            clear hov
            go_wp2_with fail
            go_ret
            rw [HP.out]
            exact ⟨rfl, hF8, fun h => absurd h (by simp)⟩
          · have HP := hid (show addL R no (blockL 3 s) = (0, { R with seen := S, vars := R.vars + l.length, begun := true, pre := addBlock R.pre false l }) by
              rw [HL2.out]; unfold addL; simp only []
              rw [if_neg HNB.out, HDL.out]
              simp only []
              rw [if_neg hov]
              rfl)
            have hov2 : decide ((1024 : Int) < (R.vars : Int) + (l.length : Int)) = false := decide_eq_false (by omega)
            have HOV := hid hov
            clear hov
            have hKW : ∀ k, n0 ≤ k → k < wL.heap.size → (wr.setCell ⟨r, 65540, none⟩ (.int .i64 ((R.vars : Int) + (l.length : Int)))).heap[k]? = wL.heap[k]? := fun k hk hk2 => by
              have hne : k ≠ r := by have := hR.lt; omega
              rw [g8.block k (by have := g56.size; omega) (by intro e; injection e with e; exact hne e), g56.block k (by omega) (by intro e; injection e with e; exact hne e)]
              exact hK5 k hk2
            have hsW : wL.heap.size ≤ (wr.setCell ⟨r, 65540, none⟩ (.int .i64 ((R.vars : Int) + (l.length : Int)))).heap.size := by have := g8.size; have := g56.size; omega
            have hO8 := own_far hO6 g8 hrb
            have hw5s : w.heap.size ≤ (wr.setCell ⟨r, 65540, none⟩ (.int .i64 ((R.vars : Int) + (l.length : Int)))).heap.size := by have := hF8.size; omega
            obtain ⟨w8, hw8⟩ : ∃ w8, wr.setCell ⟨r, 65540, none⟩ (.int .i64 ((R.vars : Int) + (l.length : Int))) = w8 := ⟨_, rfl⟩
            rw [hw8] at hA8 cv8 g8 hF8 cp8 hKW hsW hO8 hw5s
            rcases hph with ⟨-, rfl, rfl, hg0, ha0, hOut⟩ | ⟨h0, _⟩
            · have hO8o : OutAt w8 n0 pv R.pre := hOut.keepB hsW hKW
              have hpb := hR.ok.pre
              have hI64 : ∀ x ∈ R.pre, ∀ y ∈ x.vars, I64 y := fun x hx y hy => by have := hpb x hx y hy; exact ⟨by omega, by omega⟩
              have hI64l : ∀ y ∈ l, I64 y := fun y hy => by have := hsm y hy; exact ⟨by omega, by omega⟩
              have hwLB : Below (cutW w8 wL.heap.size).heap.size (cutW w8 wL.heap.size) w8 := cutW_below hsW
              have hOutC : OutAt (cutW w8 wL.heap.size) n0 pv R.pre := hOut.keepB (by rw [cutW_size hsW]; exact Nat.le_refl _) (fun k hk hk2 => (cutW_at w8 _ k hk2).trans (hKW k hk hk2))
              obtain ⟨Ap, cp, rfl, hpl⟩ := hO8o.form
              obtain ⟨xs, hxs⟩ := hO8o.row
              have hpl2 : R.pre.length ≤ 4194305 := Nat.le_trans hR.ok.prel hno
              have HRest : Hid (∀ w' v', RdAt w' r v' (.slice none 0 0) (.slice none 0 0) { R with seen := S, vars := R.vars + l.length, begun := true, pre := addBlock R.pre false l } → OutAt w' n0 v' (addBlock R.pre false l) → w8.heap.size ≤ w'.heap.size →
                  Rdr w' n0 r { R with seen := S, vars := R.vars + l.length, begun := true, pre := addBlock R.pre false l } (no + 1)) := hid fun w' v' h1 h2 h3 => by
                have hk := hR.ok
                refine ⟨hR.nine, hR.lt, by have := hR.size; omega, ⟨?_, ?_, hk.lits, mem_add hk.pre (fun y hy => hsm y hy), ?_, Nat.le_succ_of_le hk.gl, hk.al, hk.gs, hk.out⟩, _, _, _, h1, .inl ⟨HD.out, rfl, rfl, hg0, ha0, h2⟩⟩
                · have := HOV.out; simp only []; omega
                · simp only [varsOf_add]; rw [hk.nv]
                · have := len_add R.pre false l; have := hk.prel; simp only []; omega
              have HPL := hid hpl2
              by_cases hp0 : R.pre = []
              · skip
                have hlen0 : R.pre.length = 0 := by rw [hp0]; rfl
                have HOT := hid (show ∀ x, R.pre.getLast? = some x → x.ex ≠ false from fun x hx => by rw [hp0] at hx; cases hx)
                rw [hlen0] at cp8 hA8 hxs hOutC hO8o
                have HLEN := hid hlen0
                have HP0 := hid hp0
                clear hp0 hpl hlen0
                have hneg : R.pre ≠ [] ∨ R.pre = [] := by by_cases h : R.pre = [] <;> simp [h]
                clear hneg
                by_cases hl0 : l = []
                · have hz2 : ¬ (0 : Int) < (l.length : Int) := by rw [hl0]; simp
                  have hEq : addBlock R.pre false l = R.pre := by rw [addBlock_other HOT.out, if_pos hl0]
                  have HEq := hid hEq
                  clear hEq hl0
                  go_wp2_with fail
                  go_ret
                  rw [HP.out]
                  exact ⟨rfl, hF8, fun _ => HRest.out _ _ (by rw [HEq.out]; exact hA8) (by rw [HEq.out]; exact hO8o) (Nat.le_refl _)⟩
                · have hz2 : (0 : Int) < (l.length : Int) := by have := List.length_pos_iff.2 hl0; omega
                  have hEq : addBlock R.pre false l = R.pre ++ [⟨false, l⟩] := by rw [addBlock_other HOT.out, if_neg hl0]
                  have HEq := hid hEq
                  have hbs : n0 ≤ w8.heap.size := by have := hR.size; omega
                  have hb32 : (0 + 1) * 32 ≤ 140737488355328 := by omega
                  clear hEq hl0
                  go_wp2_with (first | (at_builtin; refine append_one n0 rfl _ _ 37 71 (.agg #[.bool false, .slice none 0 0]) 2 32 rfl Tryz.underlying37 info80 rfl (by decide) (by decide) (.slice Ap 0 cp) 0 xs #[.bool false, .slice A l.length c] rfl rfl rfl (by intro u hu; simp at hu; rcases hu with rfl | rfl <;> rfl) hxs hbs hb32 ?_; intro g2 cap2 w9 hO9 hG9 hg9 hbg hlt9; have hA9 := hA8.grown hG9 (fun e => by have := (hxs.lt r e).1; have := hR.lt; omega); have cp9 := hA9.cPre; have fp9 := hA9.free 0) | fail)
                  go_ret
                  rw [HP.out]
                  have hown : ∀ k, (Value.slice Ap 0 cp).ownBlock = some k → n0 ≤ k := fun k e => (hxs.lt k e).1
                  have hr10 : w9.grownBy (w9.setCell ⟨r, 0, none⟩ (.slice (some ⟨g2, 0, none⟩) (0 + 1) cap2)) (some r) := grown_setCell w9 ⟨r, 0, none⟩ _
                  have hO10 : OutAt w9 n0 (.slice (some ⟨g2, 0, none⟩) (0 + 1) cap2) (R.pre ++ [⟨false, l⟩]) := by
                    refine OutAt.push (w := w8) hOutC hI64 hwLB (x2 := ⟨false, l⟩) (vl2 := .slice A l.length c) (own_lower hO8 (by have := hR.size; have := hB.size; omega)) (fun k e => by rw [cutW_size hsW]; have := (hO8.lt k e).1; have := hB.size; omega) (fun xs' h' => ?_) hG9 (fun k e => by cases e; exact hg9)
                    rw [HLEN.out] at h'
                    rw [HLEN.out, own_unique h' hxs]; exact hO9
                  refine ⟨rfl, (hF8.grown hbs hG9 (fun k e => .inr (hown k e))).grown (by have := hG9.size; omega) hr10 (fun k e => by cases e; exact .inl rfl), fun _ => HRest.out _ _ (hA9.put 0 _ (fun cs h => h.setPre _ _)) ?_ (Nat.le_trans hG9.size hr10.size)⟩
                  rw [HEq.out]
                  exact hO10.keepB hr10.size (fun k hk hk2 => hr10.block k hk2 (by intro e; injection e with e; have := hR.lt; omega))
              · skip
                rcases hO8o with ⟨h0, -⟩ | ⟨init, y, vi, vl, e1, h2, h3, h4, h4b, h5⟩
                · exact absurd h0 hp0
                have hlen : R.pre.length = init.length + 1 := by rw [e1]; simp
                obtain ⟨go, co2, eo, hgo1, hgo2, hgo3⟩ := own_form h3 (by omega)
                injection eo with eo1 eo2 eo3
                subst eo1
                subst eo3
                obtain ⟨ni, hni⟩ : ∃ ni, init.length = ni := ⟨_, rfl⟩
                rw [hlen] at h3
                obtain ⟨hl0, hl1⟩ := last_cells h2 h3
                have hl2 := fun j => h3.frozenAt j
                rw [hni] at hl0 hl1 hlen
                have hxs' := hxs
                have cp8' := cp8
                rw [hlen] at cp8' hxs' hOutC hA8 HPL
                have hgr : go ≠ r := by have := hR.lt; omega
                have hw1 : IntKind.i64.wrap (ni : Int) = ni := IntWalk.i64_in _ (by omega)
                have hm0 : 0 ≤ (ni : Int) := by omega
                have hpl3 : ni + 1 ≤ 4194305 := by omega
                have HLEN := hid hlen
                have HE1 := hid e1
                have H2 := hid h2
                have H3 := hid h3
                have H4 := hid h4
                have H4B := hid h4b
                have H5 := hid h5
                have HNI := hid hni
                clear cp8 hlen h2 h3 h4b h5 hni hp0 hpl hxs
                have hyb : y.vars.length ≤ 1024 := by
                  have h1 := vars_len (p := R.pre) (x := y) (by rw [e1]; simp)
                  have := hR.ok.nv; omega
                clear e1
                by_cases hye : y.ex = false
                · rw [hye] at hl0
                  have HYE := hid hye
                  clear hye h4
                  have h4 := H4.out
                  have hbs : n0 ≤ w8.heap.size := by have := hR.size; omega
                  have hb8 : (y.vars.length + l.length) * 8 ≤ 140737488355328 := by omega
                  go_wp2_with (first | (at_builtin; refine append_own n0 w.heap.size rfl _ _ rfl vl _ y.vars.length y.vars l.length l rfl rfl h4 hO8 hbs hb8 ?_; intro vl1 w9 hO9 hG9 hb9'; have hl1e : w9.cell? ⟨go, ni * 2 + 1, none⟩ = some vl := hG9.cell hl1 (by intro e; exact H4B.out go e.symm rfl); have hl2e := fun j => (H3.out.kept hG9 (by right; intro e; exact H4B.out go e.symm rfl)).frozenAt j; obtain ⟨A1, c1', rfl⟩ := own_shape hO9) | fail)
                  go_ret
                  rw [HP.out]
                  have hEq : addBlock R.pre false l = init ++ [⟨y.ex, y.vars ++ l⟩] := by rw [HE1.out, addBlock_same HYE.out]
                  have hvb : ∀ q, vl.ownBlock = some q → n0 ≤ q := fun q e => (h4.lt q e).1
                  have hcb : ∀ q, (Value.slice A1 (y.vars.length + l.length) c1').ownBlock = some q → vl.ownBlock = some q ∨ w8.heap.size ≤ q := fun q e => by
                    rcases hb9' with h | h
                    · exact .inl (h ▸ e)
                    · right; rw [h] at e; injection e with e; omega
                  have hO9' : w9.ownsRow n0 3 1 (.slice A1 (y.vars.length + l.length) c1') (y.vars ++ l).length (nums (y.vars ++ l)) := by rw [List.length_append]; exact hO9
                  have RR := OutAt.ext H2.out H3.out h4 (fun q hq e => H4B.out q hq (by rw [e]; rfl)) (fun i z v hz hv => by
                    obtain ⟨k1, k2⟩ := H5.out i z v hz hv
                    exact ⟨k1, fun q hq => ⟨(k2 q hq).1, (fun e => (k2 q hq).2.1 (by rw [e]; rfl)), (k2 q hq).2.2.1, (k2 q hq).2.2.2⟩⟩) hO9' hG9 hcb
                  rw [HNI.out] at RR
                  have hA9 := hA8.grown hG9 (fun e => by have := hvb r e; have := hR.lt; omega)
                  have g10 : w9.grownBy (w9.setCell ⟨go, ni * 2 + 1, none⟩ (.slice A1 (y.vars.length + l.length) c1')) (some go) := grown_setCell w9 ⟨go, ni * 2 + 1, none⟩ _
                  have hA10 := hA9.grown g10 (by intro e; injection e with e; exact hgr e)
                  obtain ⟨cs, hcs1, hcs2⟩ := hA10
                  refine ⟨rfl, (hF8.grown hbs hG9 (fun k e => .inr (hvb k e))).grown (by have := hG9.size; omega) g10 (fun k e => by cases e; exact .inr hgo1), fun _ => HRest.out _ _ ⟨cs, hcs1, ⟨hcs2.size, hcs2.pre, hcs2.gat, hcs2.out, hcs2.seen, hcs2.vars, hcs2.lits, hcs2.begun, hcs2.done, hcs2.at_, hcs2.outAt⟩⟩ (by rw [hEq]; exact RR) (Nat.le_trans hG9.size g10.size)⟩
                · have HOT := hid (show ∀ x, R.pre.getLast? = some x → x.ex ≠ false from fun x hx => by rw [HE1.out, List.getLast?_concat] at hx; injection hx with hx; rw [← hx]; exact hye)
                  have hye2 : y.ex = true := by cases h : y.ex <;> simp_all
                  rw [hye2] at hl0
                  clear hye hye2
                  have hxs := hxs'
                  have hneg : R.pre ≠ [] ∨ R.pre = [] := by by_cases h : R.pre = [] <;> simp [h]
                  clear hneg
                  by_cases hl0 : l = []
                  · have hz2 : ¬ (0 : Int) < (l.length : Int) := by rw [hl0]; simp
                    have hEq : addBlock R.pre false l = R.pre := by rw [addBlock_other HOT.out, if_pos hl0]
                    have HEq := hid hEq
                    clear hEq hl0
                    go_wp2_with fail
                    go_ret
                    rw [HP.out]
                    exact ⟨rfl, hF8, fun _ => HRest.out _ _ (by rw [HEq.out]; exact hA8) (by rw [HEq.out]; exact (by have h9 := hOut.keepB hsW hKW; rw [HLEN.out] at h9; exact h9)) (Nat.le_refl _)⟩
                  · have hz2 : (0 : Int) < (l.length : Int) := by have := List.length_pos_iff.2 hl0; omega
                    have hEq : addBlock R.pre false l = R.pre ++ [⟨false, l⟩] := by rw [addBlock_other HOT.out, if_neg hl0]
                    have HEq := hid hEq
                    have hbs : n0 ≤ w8.heap.size := by have := hR.size; omega
                    have hb32 : (ni + 1 + 1) * 32 ≤ 140737488355328 := by omega
                    clear hEq hl0
                    go_wp2_with (first | (at_builtin; refine append_one n0 rfl _ _ 37 71 (.agg #[.bool false, .slice none 0 0]) 2 32 rfl Tryz.underlying37 info80 rfl (by decide) (by decide) (.slice (some ⟨go, 0, none⟩) (ni + 1) cp) (ni + 1) xs #[.bool false, .slice A l.length c] rfl rfl rfl (by intro u hu; simp at hu; rcases hu with rfl | rfl <;> rfl) hxs hbs hb32 ?_; intro g2 cap2 w9 hO9 hG9 hg9 hbg hlt9; have hA9 := hA8.grown hG9 (fun e => by have := (hxs.lt r e).1; have := hR.lt; omega); have cp9 := hA9.cPre; have fp9 := hA9.free 0) | fail)
                    go_ret
                    rw [HP.out]
                    have hown : ∀ k, (Value.slice (some ⟨go, 0, none⟩) (ni + 1) cp).ownBlock = some k → n0 ≤ k := fun k e => (hxs.lt k e).1
                    have hr10 : w9.grownBy (w9.setCell ⟨r, 0, none⟩ (.slice (some ⟨g2, 0, none⟩) ((ni + 1) + 1) cap2)) (some r) := grown_setCell w9 ⟨r, 0, none⟩ _
                    have hO10 : OutAt w9 n0 (.slice (some ⟨g2, 0, none⟩) ((ni + 1) + 1) cap2) (R.pre ++ [⟨false, l⟩]) := by
                      refine OutAt.push (w := w8) hOutC hI64 hwLB (x2 := ⟨false, l⟩) (vl2 := .slice A l.length c) (own_lower hO8 (by have := hR.size; have := hB.size; omega)) (fun k e => by rw [cutW_size hsW]; have := (hO8.lt k e).1; have := hB.size; omega) (fun xs' h' => ?_) hG9 (fun k e => by cases e; exact hg9)
                      rw [HLEN.out] at h'
                      rw [HLEN.out, own_unique h' hxs]; exact hO9
                    refine ⟨rfl, (hF8.grown hbs hG9 (fun k e => .inr (hown k e))).grown (by have := hG9.size; omega) hr10 (fun k e => by cases e; exact .inl rfl), fun _ => HRest.out _ _ (hA9.put 0 _ (fun cs h => h.setPre _ _)) ?_ (Nat.le_trans hG9.size hr10.size)⟩
                    rw [HEq.out]
                    exact hO10.keepB hr10.size (fun k hk hk2 => hr10.block k hk2 (by intro e; injection e with e; have := hR.lt; omega))
            · rw [HD.out] at h0; cases h0
end Go.Proofs.YtnlobmepajakcaaGreatDoor
namespace Go.Proofs.YtnlobmepajakcaaGreatDoor
open Go.RowKit Go.Shelf

theorem run_append_empty (base : Nat) (ty : TypeId) {W : World} (v : Value) (n : Nat) (xs : List Value) (hown : W.ownsRow base 3 1 v n xs) (A : Option Addr) (c : Nat) :
    (Builtin.append_ #[48, 48] ty #[v, .slice A 0 c]).run Tryz.prog W = .ok v W := by
  obtain ⟨i0, hi, hzz⟩ := Option.map_eq_some_iff.1 info3
  have ht := Tryz.underlying48
  cases A with
  | none =>
    rcases hown.2 with ⟨rfl, rfl⟩ | ⟨g, cap, cur, rfl, _, _, hnc, _⟩
    · simp [Builtin.append_, run_underlying ht, sizeOf, typeInfo, hi, Builtin.lenOf, Builtin.firstCells]
    · simp [Builtin.append_, run_underlying ht, sizeOf, typeInfo, hi, Builtin.lenOf, Builtin.firstCells, hnc, storeCells]
  | some a =>
    rcases hown.2 with ⟨rfl, rfl⟩ | ⟨g, cap, cur, rfl, _, _, hnc, _⟩
    · simp [Builtin.append_, run_underlying ht, sizeOf, typeInfo, hi, Builtin.lenOf, Builtin.firstCells, loadCells, loadCellsFrom]
    · simp [Builtin.append_, run_underlying ht, sizeOf, typeInfo, hi, Builtin.lenOf, Builtin.firstCells, hnc, storeCells, loadCells, loadCellsFrom]
section
variable {ops : Array Oper} {rest : List Oper} {o : Oper} {a : Act} {Q : Exit → Act → World → Prop}
/-- append of a list that reads as data, an empty one too. -/
theorem append_any {W : World} (base : Nat) (hgd : o.guard = none) (s x : Operand) (ho : o.op = .call { callee := .builtin .append, args := #[s, x], argTypes := #[48, 48] })
    (v : Value) (n : Nat) (xs : List Int) (A : Option Addr) (m cap : Nat) (ys : List Int) (hs : a.eval s = v) (hx : a.eval x = .slice A m cap)
    (HO : W.ownsRow base 3 1 v n (nums xs)) (hi : IntsAt W (.slice A m cap) ys) (hm : m = ys.length) (hbase : base ≤ W.heap.size) (hl : (n + m) * 8 ≤ 140737488355328)
    (h : ∀ v1 w1, w1.ownsRow base 3 1 v1 (n + m) (nums (xs ++ ys)) → W.grownBy w1 v.ownBlock → wpList Tryz.prog ops Q rest (a.put o.dst v1) w1) :
    wpList Tryz.prog ops Q (o :: rest) a W := by
  subst hm
  by_cases hy : ys = []
  · subst hy
    exact step_append_run hgd s x 48 ho v _ v hs hx (run_append_empty base o.type v n (nums xs) HO A cap) (h v W (by simpa using HO) (World.grownBy.refl _ _))
  · obtain ⟨bi, oi, rfl⟩ : ∃ bi oi, A = some ⟨bi, oi, none⟩ := by
      obtain ⟨y, hy, -, -⟩ := nth (List.length_pos_iff.2 hy)
      obtain ⟨bi, oi, e, _⟩ := hi.at_ 0 y hy
      exact ⟨bi, oi, e⟩
    exact append_data base hgd s x ho v n xs bi oi ys.length cap ys hs hx HO hi rfl hbase hl h
end
end Go.Proofs.YtnlobmepajakcaaGreatDoor
