/- What circ.reached hands to a loop: the gates that are reached from a literal, the last one first; the conditions: the gates' variables lie from 0 to 65,536, and the memory that it reads is kept by the loop's body. -/
import Derived.Test.YtnlobmepajakcaaIter
import Derived.Test.YtnlobmepajakcaaTailIn
import Derived.Test.YtnlobmepajakcaaLeafA
set_option linter.unusedVariables false
set_option linter.unusedSimpArgs false
namespace Go.Proofs.Ytnlobmepajakcaa
open Go.RowKit Go.Shelf
attribute [local go_sem] Oper.semAt_some

def markS (S : Nat → Bool) (ls : List Int) : Nat → Bool := ls.foldl (fun S l => upd S (absN l) true) S
abbrev PE := Nat × PGate × Value
def reachL (S : Nat → Bool) : List PE → List PE
  | [] => []
  | x :: xs => if S x.2.1.var.toNat = true then x :: reachL (markS S x.2.1.ins) xs else reachL S xs
def reachS (S : Nat → Bool) : List PE → Nat → Bool
  | [] => S
  | x :: xs => if S x.2.1.var.toNat = true then reachS (markS S x.2.1.ins) xs else reachS S xs
theorem reachL_append (S : Nat → Bool) : ∀ (xs ys : List PE), reachL S (xs ++ ys) = reachL S xs ++ reachL (reachS S xs) ys
  | [], ys => rfl
  | x :: xs, ys => by
    simp only [List.cons_append, reachL, reachS]
    split
    · rw [reachL_append, List.cons_append]
    · exact reachL_append S xs ys
theorem reachS_append (S : Nat → Bool) : ∀ (xs ys : List PE), reachS S (xs ++ ys) = reachS (reachS S xs) ys
  | [], ys => rfl
  | x :: xs, ys => by
    simp only [List.cons_append, reachS]
    split
    · exact reachS_append _ xs ys
    · exact reachS_append S xs ys

theorem reached_any (A : Option Addr) (n c : Nat) (lit : Int) (bs : Nat) (w : World) : Calls Try.prog 66 #[.slice A n c, .int .i64 lit, .pointer (some ⟨bs, 0, none⟩)] w fun e w' =>
    e = .returned (.func (.func 96) #[] #[.pointer (some ⟨w.heap.size + 2, 0, none⟩), .pointer (some ⟨w.heap.size + 1, 0, none⟩), .pointer (some ⟨w.heap.size, 0, none⟩)]) ∧
    Below w.heap.size w w' ∧ w'.heap.size = w.heap.size + 3 ∧ w'.cell? ⟨w.heap.size, 0, none⟩ = some (.slice A n c) ∧ w'.cell? ⟨w.heap.size + 1, 0, none⟩ = some (.int .i64 lit) ∧ w'.cell? ⟨w.heap.size + 2, 0, none⟩ = some (.pointer (some ⟨bs, 0, none⟩)) := by
  obtain ⟨w1, hw1, hc1, -, hz1, hB1, -⟩ := new_block w #[.slice A n c] 23
  obtain ⟨w2, hw2, hc2, -, hz2, hB2, -⟩ := new_block w1 #[.int .i64 lit] 3
  obtain ⟨w3, hw3, hc3, -, hz3, hB3, -⟩ := new_block w2 #[.pointer (some ⟨bs, 0, none⟩)] 104
  have k1 : w1.cell? ⟨w.heap.size, 0, none⟩ = some (.slice A n c) := hc1 0 _ rfl
  have k2 : w2.cell? ⟨w1.heap.size, 0, none⟩ = some (.int .i64 lit) := hc2 0 _ rfl
  have k3 : w3.cell? ⟨w2.heap.size, 0, none⟩ = some (.pointer (some ⟨bs, 0, none⟩)) := hc3 0 _ rfl
  have e1 := keeps_below hB3 _ _ (keeps_below hB2 _ _ k1)
  have e2 := keeps_below hB3 _ _ k2
  rw [hz1] at e2 hz2
  rw [hz2] at hz3 k3
  have hB : Below w.heap.size w w3 := below_then (below_then hB1 hB1.size hB2) (by omega) hB3
  clear hc1 hc2 hc3 k1 k2
  go_enter Try.func66, Try.ntmps66
  go_wp2
  go_ret
  exact ⟨by simp [hz1, hz2], hB, by omega, e1, e2, k3⟩
theorem es_mem {w0 : World} {A : Option Addr} {gates : List PGate} {es : List PE} (hd : GatesL w0 A gates es) {pre rest : List PE} {x : PE} (h : es.reverse = pre ++ x :: rest) : x.2.1 ∈ gates ∧ IntsAt w0 x.2.2 x.2.1.ins := by
  have hm : x ∈ es := by rw [← List.mem_reverse, h]; simp
  obtain ⟨k, hk, e⟩ := List.getElem_of_mem hm
  obtain ⟨-, h1, h2, -⟩ := hd.2 k x (by rw [← e]; exact List.getElem?_eq_getElem hk)
  exact ⟨List.mem_of_getElem? h1, h2⟩
theorem markS_snoc (S : Nat → Bool) (ls : List Int) (l : Int) : markS S (ls ++ [l]) = upd (markS S ls) (absN l) true := by simp [markS]
theorem abt_cell {β : Type} {B : Nat} {a : Addr} {v : Value} : AbT B none (fun (_ : β) W => W.cell? a = some v) := fun s W W' row hs hg hr => cell_kept hs hg (fun r e => (hr r e).elim (fun h => by cases h) (fun h => h.2))

set_option maxRecDepth 100000 in
set_option maxHeartbeats 4000000 in
theorem reached1_in (l Bg Bl Bs bs t n₀ : Nat) (X : Nat → Prop) (T : TypeId) (hT1 : T ≠ 134) (hT2 : T ≠ 23) (hT3 : T ≠ t) (A : Option Addr) (c : Nat) (gates : List PGate) (es : List PE) (lit : Int) (S : Nat → Bool) (J Jx : List PE → World → Prop) (W : World)
    (hab : AbT W.heap.size (some bs) J) (habx : AbT W.heap.size none Jx)
    (hY : ∀ pre x rest W1, reachL (upd S (absN lit) true) es.reverse = pre ++ x :: rest → J pre W1 → YieldAt Fence.wide 0 Try.prog l (encG x) W1 fun e W' =>
      (e = .returned (.bool true) ∧ J (pre ++ [x]) W' ∧ KeepX n₀ X T W1 W') ∨ (e = .returned (.bool false) ∧ Jx (pre ++ [x]) W' ∧ KeepsFrom W.heap.size W1 W'))
    (hc : gates.length ≤ 9223372036854775807) (hBg : W.cell? ⟨Bg, 0, none⟩ = some (.slice A gates.length c)) (hBl : W.cell? ⟨Bl, 0, none⟩ = some (.int .i64 lit)) (hBs : W.cell? ⟨Bs, 0, none⟩ = some (.pointer (some ⟨bs, 0, none⟩)))
    (hS : SetAt W bs t S) (hx1 : ¬ XB n₀ X T W Bg) (hx2 : ¬ XB n₀ X T W Bl) (hx3 : ¬ XB n₀ X T W Bs) (hx4 : ¬ XB n₀ X T W bs) (hn1 : bs ≠ Bg) (hn2 : bs ≠ Bl) (hn3 : bs ≠ Bs)
    (w0 : World) (hX2 : ∀ k, X k → k < W.heap.size) (hd : GatesL w0 A gates es) (hK0 : ∀ w', KeepX n₀ (fun k => X k ∨ k = bs) T W w' → Keeps w0 w') (hv : ∀ g ∈ gates, 0 ≤ g.var ∧ g.var ≤ 65536) (h0 : J [] W) :
    CallsIn Fence.wide 0 Try.prog 96 #[.func (.yield l) #[] #[], .pointer (some ⟨Bs, 0, none⟩), .pointer (some ⟨Bl, 0, none⟩), .pointer (some ⟨Bg, 0, none⟩)] W fun e W' => (∃ v, e = .returned v) ∧
      ((J (reachL (upd S (absN lit) true) es.reverse) W' ∧ SetAt W' bs t (reachS (upd S (absN lit) true) es.reverse)) ∨ (∃ pre, pre <+: reachL (upd S (absN lit) true) es.reverse ∧ Jx pre W')) := by
  refine callsIn_of_wp_marks Try.func96 rfl trivial ?_ rfl
  simp only [Try.ntmps96, List.size_toArray, List.length_cons, List.length_nil, Nat.reduceAdd, Nat.reduceSub, Array.replicate_succ, Array.replicate_zero, List.push_toArray, List.append_toArray, List.nil_append, List.cons_append]
  refine wpIn_wide.2 ?_
  obtain ⟨w1, hw1, hc1, -, hz1, hB1, hrow1⟩ := new_block W #[.func (.yield l) #[] #[]] 134
  have k1 : w1.cell? ⟨W.heap.size, 0, none⟩ = some (.func (.yield l) #[] #[]) := hc1 0 _ rfl
  have g1 := fun p => cell_since (keeps_below hB1 _ _ hBg) p
  have g2 := fun p => cell_since (keeps_below hB1 _ _ hBl) p
  have g3 := fun p => cell_since (keeps_below hB1 _ _ hBs) p
  have Ca : ∀ p, Calls Try.prog 59 #[.int .i64 lit] (since w1 p) fun e w' => e = .returned (.int .i64 (absN lit : Int)) ∧ Below (since w1 p).heap.size (since w1 p) w' :=
    fun p => (abs_any lit _).mono fun e w' ⟨he, hw⟩ => ⟨he, by rw [hw]; exact Below.refl _ _⟩
  have hq := absN_lt lit
  clear hc1
  revert hY Ca hq
  generalize absN lit = q
  intro hY Ca hq
  go_wp2_with fail
  refine region_tail 5 (by kernel_rfl) (by kernel_rfl) ?_
  simp only [List.take_succ_cons, List.take_zero, List.drop_succ_cons, List.drop_zero]
  repeat (first | go_big_quiet_step ((go_at_call 59; exact calls_since (Ca _))) | quiet_step ((go_at_call 59; exact calls_since (Ca _))))
  refine wpQuiet_nil ?_
  rintro W2 ⟨pw, hW2⟩
  have hB2 : Below w1.heap.size w1 W2 := by rw [hW2]; exact since_below w1 pw
  clear hW2
  have hB12 := below_then hB1 hB1.size hB2
  have hS2 := hS.below hB12
  have hcq := hS2.cell q hq
  have hfq := hS2.free q
  have hS3 := hS2.store q true
  have hG3 := grown_setCell W2 ⟨bs, q, none⟩ (.bool true)
  have hlb := hS.lt
  have f1 : (W2.setCell ⟨bs, q, none⟩ (.bool true)).cell? ⟨Bg, 0, none⟩ = some (.slice A gates.length c) := hG3.cell (keeps_below hB12 _ _ hBg) (fun e => hn1 (by injection e with e; exact e.symm))
  have f2 : (W2.setCell ⟨bs, q, none⟩ (.bool true)).cell? ⟨Bs, 0, none⟩ = some (.pointer (some ⟨bs, 0, none⟩)) := hG3.cell (keeps_below hB12 _ _ hBs) (fun e => hn3 (by injection e with e; exact e.symm))
  have f3 : (W2.setCell ⟨bs, q, none⟩ (.bool true)).heap[W.heap.size]? = some (.cells #[.func (.yield l) #[] #[]] 134 (0, 0)) := row_grown (row_below hrow1 hB2) hG3 (by intro e; injection e with e; have e' : bs = W.heap.size := e; omega)
  have hsz3 : w1.heap.size ≤ (W2.setCell ⟨bs, q, none⟩ (.bool true)).heap.size := Nat.le_trans hB2.size hG3.size
  have hJ3 : J [] (W2.setCell ⟨bs, q, none⟩ (.bool true)) := hab _ _ _ _ (hab _ _ _ none h0 (grown_of_below hB12 _) (fun r e => by cases e)) hG3 (fun r e => .inl e)
  have hg03 : W.grownBy (W2.setCell ⟨bs, q, none⟩ (.bool true)) (some bs) := (grown_of_below hB12 _).trans hG3
  go_wp2_with fail
  obtain ⟨W3, hW3⟩ : ∃ W3, W2.setCell ⟨bs, q, none⟩ (.bool true) = W3 := ⟨_, rfl⟩
  rw [hW3] at hS3 f1 f2 f3 hsz3 hJ3 hg03 ⊢
  clear hW3 hG3 hfq hcq hS2 hB12 hB2 hrow1 k1 g1 g2 g3 Ca hw1 hB1 hz1
  have CB := backward_any A gates.length c W3
  go_wp2_with (go_at_call 97; refine CB.mono ?_; rintro e w' ⟨rfl, hw'⟩)
  obtain ⟨wL, hwL, hcL, -, hzL, hBL, hrowL⟩ := new_block W3 #[.slice A gates.length c] 23
  rw [hwL]
  have hbox : wL.cell? ⟨W3.heap.size, 0, none⟩ = some (.slice A gates.length c) := hcL 0 _ rfl
  have e2 := keeps_below hBL _ _ f2
  have e3 := row_below f3 hBL
  have eS := hS3.below hBL
  have eJ : J [] wL := hab _ _ _ none hJ3 (grown_of_below hBL _) (fun r e => by cases e)
  have hg0L : W.grownBy wL (some bs) := hg03.trans (grown_of_below hBL _)
  clear hwL hcL hw'
  have xsame : ∀ k, k < W.heap.size → k ≠ bs → wL.heap[k]? = W.heap[k]? := fun k hk hn => hg0L.block k hk (by intro e; injection e with e; exact hn e)
  have hk0L : KeepX n₀ (fun k => X k ∨ k = bs) T W wL := (KeepX.refl _ _ _ _).grown hg0L (fun r e => .inl (.inl (.inr (by injection e with e; exact e.symm))))
  have hWL : W.heap.size ≤ wL.heap.size := hg0L.size
  have nx3 : ¬ XB n₀ (fun k => X k ∨ k = bs) T wL Bs := fun h => by
    rcases h with (h | h) | ⟨h, cs, fr, h'⟩
    · exact hx3 (.inl h)
    · exact hn3 h.symm
    · rw [xsame Bs (World.block_lt_of_cell? W _ hBs) (fun e => hn3 e.symm)] at h'
      exact hx3 (.inr ⟨h, cs, fr, h'⟩)
  have nx4 : ¬ XB n₀ (fun k => X k ∨ k = bs) T wL W.heap.size := fun h => by
    rcases h with (h | h) | ⟨h, cs, fr, h'⟩
    · have := hX2 _ h; omega
    · omega
    · rw [e3] at h'; cases h'; exact hT1 rfl
  have nxL : ¬ XB n₀ (fun k => X k ∨ k = bs) T wL W3.heap.size := fun h => by
    have := hg03.size
    rcases h with (h | h) | ⟨h, cs, fr, h'⟩
    · have := hX2 _ h; omega
    · omega
    · rw [hrowL] at h'; cases h'; exact hT2 rfl
  refine wp_rangeFunc_T (gf := 106) (lb := #[.pointer (some ⟨W3.heap.size, 0, none⟩)]) (encs := encG) (Kp := KeepX n₀ (fun k => X k ∨ k = bs) T) (row0 := none) (xs := es.reverse) (Fin := fun _ => True) (w0 := wL) rfl (enters_of Try.func106 (by kernel_rfl) rfl)
    (backward_seq hc hbox nxL hd (fun w' hk => hK0 w' (hk0L.trans hk))) (fun _ _ _ _ _ => trivial) (fun r e => by cases e) KeepX.trans KeepX.record (Below.refl _ _) (fun x => rfl)
    (fun pre W' => J (reachL (upd S q true) pre) W' ∧ SetAt W' bs t (reachS (upd S q true) pre) ∧ KeepX n₀ (fun k => X k ∨ k = bs) T wL W')
    (fun c pre W' => c = .ret ∧ ∃ pre', pre' <+: reachL (upd S q true) es.reverse ∧ Jx pre' W')
    (fun s A B row hs hG hr => by
      have hne : ∀ r, row = some r → wL.heap.size ≤ r ∧ ∃ o : Obj, A.heap[r]? = some o ∧ o.isCells = false := fun r e => (hr r e).elim (fun h => by cases h) id
      exact ⟨hab _ _ _ row hs.1 hG (fun r e => .inr ⟨by have := (hne r e).1; omega, (hne r e).2⟩), hs.2.1.kept hG (fun e => by have := (hne _ e).1; omega), hs.2.2.grown hG (fun r e => .inr (hne r e).1)⟩)
    (fun c s A B row hs hG hr => by
      obtain ⟨h1, pre', h2, h3⟩ := hs
      exact ⟨h1, pre', h2, habx _ _ _ row h3 hG (fun r e => (hr r e).imp id (fun h => ⟨by omega, h.2⟩))⟩)
    ⟨eJ, eS, KeepX.refl _ _ _ _⟩
    (fun x a' W' => ∃ B6, W'.cell? ⟨B6, 0, none⟩ = some (.int .i64 x.2.1.var) ∧ W'.cell? ⟨B6, 1, none⟩ = some (.int .u8 x.2.1.kind) ∧ W'.cell? ⟨B6, 2, none⟩ = some x.2.2 ∧ wL.heap.size ≤ B6 ∧
      a' = { tmps := #[.func (.yield l) #[] #[], .pointer (some ⟨Bs, 0, none⟩), .pointer (some ⟨Bl, 0, none⟩), .pointer (some ⟨Bg, 0, none⟩), .pointer (some ⟨W.heap.size, 0, none⟩), .int .i64 x.1, .pointer (some ⟨B6, 0, none⟩), undef, undef,
        .pointer (some ⟨bs, 0, none⟩), .int .i64 lit, .int .i64 q, .pointer (some ⟨bs, 0, none⟩), .pointer (some ⟨bs, q, none⟩), .slice A gates.length c, .func (.func 106) #[] #[.pointer (some ⟨W3.heap.size, 0, none⟩)], .int .i64 x.1,
        .agg #[.int .i64 x.2.1.var, .int .u8 x.2.1.kind, x.2.2], undef, undef, undef, undef, undef, undef, undef, undef, undef, undef, undef, undef, undef, undef, undef, undef, undef, undef, undef, undef, undef, undef, undef, undef, undef], defers := [] })
    (fun x a' s A B row hs hG hr => by
      obtain ⟨B6, h1, h2, h3, h4, h5⟩ := hs
      have hr' : ∀ r, row = some r → ∃ o : Obj, A.heap[r]? = some o ∧ o.isCells = false := fun r e => (hr r e).elim (fun h => by cases h) (fun h => h.2)
      exact ⟨B6, cell_kept h1 hG hr', cell_kept h2 hG hr', cell_kept h3 hG hr', h4, h5⟩) ?assign ?body ?done ?stop
  case assign =>
    rintro l2 pre ⟨i, g, vi⟩ rest W4 K hxs ⟨hJ, hS4, hK4⟩ hK
    obtain ⟨hgm, hi⟩ := es_mem hd hxs
    obtain ⟨Ax, cx, e, hlx, hcx⟩ := hi.form
    have e' : vi = .slice Ax g.ins.length cx := e
    subst e'
    obtain ⟨w5, hw5, hc5, -, hz5, hB5, -⟩ := new_block W4 #[.int .i64 g.var, .int .u8 g.kind, .slice Ax g.ins.length cx] 70
    have k1 : w5.cell? ⟨W4.heap.size, 0, none⟩ = some (.int .i64 g.var) := hc5 0 _ rfl
    have k2 : w5.cell? ⟨W4.heap.size, 1, none⟩ = some (.int .u8 g.kind) := hc5 1 _ rfl
    have k3 : w5.cell? ⟨W4.heap.size, 2, none⟩ = some (.slice Ax g.ins.length cx) := hc5 2 _ rfl
    have hKK : KeepX n₀ (fun k => X k ∨ k = bs) T W4 w5 := (KeepX.refl _ _ _ _).below hB5
    have hJ5 : J (reachL (upd S q true) pre) w5 := hab _ _ _ none hJ (grown_of_below hB5 _) (fun r e => by cases e)
    have R := hK { tmps := #[.func (.yield l) #[] #[], .pointer (some ⟨Bs, 0, none⟩), .pointer (some ⟨Bl, 0, none⟩), .pointer (some ⟨Bg, 0, none⟩), .pointer (some ⟨W.heap.size, 0, none⟩), .int .i64 i, .pointer (some ⟨W4.heap.size, 0, none⟩), undef, undef,
        .pointer (some ⟨bs, 0, none⟩), .int .i64 lit, .int .i64 q, .pointer (some ⟨bs, 0, none⟩), .pointer (some ⟨bs, q, none⟩), .slice A gates.length c, .func (.func 106) #[] #[.pointer (some ⟨W3.heap.size, 0, none⟩)], .int .i64 i,
        .agg #[.int .i64 g.var, .int .u8 g.kind, .slice Ax g.ins.length cx], undef, undef, undef, undef, undef, undef, undef, undef, undef, undef, undef, undef, undef, undef, undef, undef, undef, undef, undef, undef, undef, undef, undef, undef, undef], defers := [] }
      w5 (hKK.from _ (fun k h => h.elim (fun h => by have := hX2 k h; omega) (fun e => by omega))) hKK ⟨hJ5, hS4.below hB5, hK4.below hB5⟩ ⟨W4.heap.size, k1, k2, k3, hK4.size, rfl⟩
    dsimp only [encG]
    clear hK hc5 hi
    gi_wp2
    exact R
  case body =>
    rintro l2 pre ⟨i, g, vi⟩ rest a' W4 hxs hl hr ⟨hJ, hS4, hK4⟩ ⟨B6, c60, c61, c62, hB6, rfl⟩
    obtain ⟨hgm, hi⟩ := es_mem hd hxs
    obtain ⟨Ax, cx, e, hlx, hcx⟩ := hi.form
    have e' : vi = .slice Ax g.ins.length cx := e
    subst e'
    obtain ⟨hg0, hg1⟩ := hv g hgm
    obtain ⟨m, hm⟩ : ∃ m : Nat, g.var = m := Int.eq_ofNat_of_zero_le hg0
    have hm1 : m < 65537 := by omega
    have s1 := fun p => cell_since (hK4.cell e2 nx3) p
    have s2 := fun p => cell_since c60 p
    have s3 := fun p => (hS4.below (since_below W4 p)).cell m hm1
    have hm0 : 0 ≤ (m : Int) := by omega
    have hm2 : (m : Int) < 65537 := by omega
    have hmN : (m : Int).toNat = m := by omega
    simp only at c60 c61 c62 s2
    rw [hm] at s2 c60
    simp only [hm]
    have hvar : (g.var).toNat = m := by omega
    obtain ⟨SP, hSP⟩ : ∃ SP, reachS (upd S q true) pre = SP := ⟨_, rfl⟩
    rw [hSP] at hS4 s3
    have HSP := hid hSP
    have eL := reachL_append (upd S q true) pre [(i, g, .slice Ax g.ins.length cx)]
    have eSS := reachS_append (upd S q true) pre [(i, g, .slice Ax g.ins.length cx)]
    rw [hSP] at eL eSS
    simp only [reachL, reachS, hvar] at eL eSS
    have HEL := hid eL
    have HES := hid eSS
    clear eL eSS hSP
    cases hy : SP m with
    | false =>
      rw [hy] at s3 
      have HY := hid hy
      clear hy
      gi_wp2_with fail
      refine region_tail_in 6 (by kernel_rfl) (by kernel_rfl) (by kernel_rfl) ?_
      simp only [List.take_succ_cons, List.take_zero, List.drop_succ_cons, List.drop_zero]
      repeat (first | go_big_quiet_step (fail) | quiet_step (fail))
      refine wpQuiet_nil ?_
      rintro W5 ⟨pw, hW5⟩
      have hB5 : Below W4.heap.size W4 W5 := by rw [hW5]; exact since_below W4 pw
      clear hW5
      gi_wp2_with fail
      refine ⟨((KeepX.refl n₀ (fun k => X k ∨ k = bs) T _).below hB5).from _ (fun k h => h.elim (fun h => by have := hX2 k h; omega) (fun e => by omega)), (KeepX.refl _ _ _ _).below hB5, ?_, ?_, hK4.below hB5⟩
      · rw [HEL.out, if_neg (by rw [HY.out]; simp), List.append_nil]; exact hab _ _ _ none hJ (grown_of_below hB5 _) (fun r e => by cases e)
      · rw [HES.out, if_neg (by rw [HY.out]; simp)]; exact hS4.below hB5
    | true =>
      rw [hy] at s3
      have HY := hid hy
      clear hy
      gi_wp2_with fail
      refine region_tail_in 6 (by kernel_rfl) (by kernel_rfl) (by kernel_rfl) ?_
      simp only [List.take_succ_cons, List.take_zero, List.drop_succ_cons, List.drop_zero]
      repeat (first | go_big_quiet_step (fail) | quiet_step (fail))
      refine wpQuiet_nil ?_
      rintro W5 ⟨pw, hW5⟩
      have hB5 : Below W4.heap.size W4 W5 := by rw [hW5]; exact since_below W4 pw
      clear hW5
      have d60 := keeps_below hB5 _ _ c60
      have d61 := keeps_below hB5 _ _ c61
      have d62 := keeps_below hB5 _ _ c62
      gi_wp2_with fail
      have hb6 : B6 ≠ bs := fun e => by omega
      gi_loopw [8, 28] (fun _ s28 wr => ∃ k : Nat, k ≤ g.ins.length ∧ s28 = .int .i64 k ∧ W4.grownBy wr (some bs) ∧ SetAt wr bs t (markS SP (g.ins.take k)))
        (fun _ i _ => g.ins.length - (intOf i).toNat)
      case atStart => exact ⟨0, Nat.zero_le _, rfl, grown_of_below hB5 _, hS4.below hB5⟩
      case round =>
        obtain ⟨k, hk, rfl, hG, hSr⟩ := hrel
        clear d60 d61 d62 hB5 s1 s2 s3
        have r1 : ∀ p, (since wr p).cell? ⟨Bs, 0, none⟩ = some (.pointer (some ⟨bs, 0, none⟩)) := fun p => cell_since (hG.cell (hK4.cell e2 nx3) (fun e => hn3 (by injection e with e; exact e.symm))) p
        by_cases hlt : k < g.ins.length
        · obtain ⟨y, hy, -, -⟩ := nth hlt
          have hBr : Keeps w0 wr := hK0 _ ((hk0L.trans hK4).grown hG (fun r e => .inl (.inl (.inr (by injection e with e; exact e.symm)))))
          obtain ⟨b2, off2, rfl, hcy, -⟩ := (hi.keep hBr).at_ k y hy
          have hltz : (k : Int) < (g.ins.length : Int) := by omega
          have Cy : ∀ p, Calls Try.prog 59 #[.int .i64 y] (since wr p) fun e w' => e = .returned (.int .i64 (absN y : Int)) ∧ Below (since wr p).heap.size (since wr p) w' :=
            fun p => (abs_any y _).mono fun e w' ⟨he, hw⟩ => ⟨he, by rw [hw]; exact Below.refl _ _⟩
          have hqy := absN_lt y
          have hmk : markS SP (g.ins.take (k + 1)) = upd (markS SP (g.ins.take k)) (absN y) true := by
            rw [List.take_add_one, hy]; exact markS_snoc _ _ _
          have HMK := hid hmk
          clear hmk hy hBr
          revert Cy hqy HMK
          generalize absN y = qy
          intro Cy hqy HMK
          gi_wp2_with fail
          refine region_tail_in 5 (by kernel_rfl) (by kernel_rfl) (by kernel_rfl) ?_
          simp only [List.take_succ_cons, List.take_zero, List.drop_succ_cons, List.drop_zero]
          repeat (first | go_big_quiet_step ((go_at_call 59; exact calls_since (Cy _))) | quiet_step ((go_at_call 59; exact calls_since (Cy _))))
          refine wpQuiet_nil ?_
          rintro W6 ⟨pw6, hW6⟩
          have hB6' : Below wr.heap.size wr W6 := by rw [hW6]; exact since_below wr pw6
          clear hW6
          have hS6 := hSr.below hB6'
          have hcq6 := hS6.cell qy hqy
          have hfq6 := hS6.free qy
          have HS6 := hid hS6
          have hG6 := hG.trans (grown_of_below hB6' (some bs))
          clear hS6 hSr Cy r1 hcy
          gi_wp2_with fail
          go_roundw
          case rel => exact ⟨k + 1, by omega, by go_num, hG6.trans (grown_setCell _ _ _), by rw [HMK.out]; exact HS6.out.store qy true⟩
          case measure => simp [intOf]; omega
        · have hlt2 : ¬ (k : Int) < (g.ins.length : Int) := by omega
          have d60 := hG.cell c60 (fun e => hb6 (by injection e with e))
          have d61 := hG.cell c61 (fun e => hb6 (by injection e with e))
          have d62 := hG.cell c62 (fun e => hb6 (by injection e with e))
          have ky : wr.cell? ⟨W.heap.size, 0, none⟩ = some (.func (.yield l) #[] #[]) := hG.cell (hK4.cell (cell_row e3 rfl) nx4) (by intro e; injection e with e; have e' : W.heap.size = bs := e; omega)
          have hsp : reachL (upd S q true) es.reverse = reachL (upd S q true) pre ++ (i, g, .slice Ax g.ins.length cx) :: reachL (markS SP g.ins) rest := by
            rw [hxs, reachL_append, HSP.out, reachL]
            simp only [hvar]
            rw [if_pos HY.out]
          obtain ⟨fn, tmps, assign, body, hy2, hR⟩ := hY _ _ _ wr hsp (hab _ _ _ _ hJ hG (fun r e => .inl e))
          dsimp only [encG] at hy2
          rw [hm] at hy2
          have HSP2 := hid hsp
          clear hsp
          have hSf : SetAt wr bs t (reachS (upd S q true) (pre ++ [(i, g, .slice Ax g.ins.length cx)])) := by
            rw [HES.out, if_pos HY.out, ← List.take_of_length_le (show g.ins.length ≤ k by omega)]; exact hSr
          have HSF := hid hSf
          clear hSf hSr
          gi_wp2
          refine ⟨rfl, hR.mono ?_⟩
          have hKr : KeepX n₀ (fun k => X k ∨ k = bs) T W4 wr := (KeepX.refl _ _ _ _).grown hG (fun r e => .inl (.inl (.inr (by injection e with e; exact e.symm))))
          rintro e W7 (⟨rfl, hJ7, hk7⟩ | ⟨rfl, hJx7, hkf7⟩)
          · have hK7 := hKr.trans (hk7.weak (Y := fun k => X k ∨ k = bs) (fun k h => .inl h))
            have hI7 : J (reachL (upd S q true) (pre ++ [(i, g, .slice Ax g.ins.length cx)])) W7 := by rw [HEL.out, if_pos HY.out]; exact hJ7
            have hS7 := HSF.out.heap (hk7.block bs HSF.out.lt (fun h => by
              rcases h with h | ⟨-, cs, fr, h⟩
              · exact hx4 (.inl h)
              · obtain ⟨cs', h', -⟩ := HSF.out
                rw [h'] at h; cases h; exact hT3 rfl))
            gi_wp2
            exact ⟨hK7.from _ (fun k h => h.elim (fun h => by have := hX2 k h; omega) (fun e => by omega)), hK7, hI7, hS7, hK4.trans hK7⟩
          · have hkk : KeepsFrom wL.heap.size W4 W7 := (hKr.from _ (fun k h => h.elim (fun h => by have := hX2 k h; omega) (fun e => by omega))).trans ⟨hkf7.size, fun k o h1 h2 h3 => hkf7.same k o (by omega) h2 h3⟩
            have hpre : reachL (upd S q true) pre ++ [(i, g, .slice Ax g.ins.length cx)] <+: reachL (upd S q true) es.reverse := ⟨reachL (markS SP g.ins) rest, by rw [HSP2.out]; simp⟩
            gi_wp2
            exact ⟨hkk, rfl, _, hpre, hJx7⟩
  case done =>
    rintro D W4 hD ⟨hJ, hS4, hK4⟩ - hdef
    have hJD := hab _ _ _ (some D) hJ (grownBy_putObj' W4 D (.deferred none)) (fun r e => .inr (by cases e; exact ⟨by omega, _, hdef, rfl⟩))
    have hSD := hS4.kept (grownBy_putObj' W4 D (.deferred none)) (by intro e; injection e with e; omega)
    gi_wp2
    refine ⟨by simp, .inl ⟨_, _, rfl, run_takeDeferred hdef, ?_⟩⟩
    exact ⟨_, results_none rfl _ _ _, ⟨_, rfl⟩, .inl ⟨hJD, hSD⟩⟩
  case stop =>
    rintro D c pre W4 hD hp ⟨rfl, pre', hp', hJx⟩ hdef
    have hJD := habx _ _ _ (some D) hJx (grownBy_putObj' W4 D (.deferred none)) (fun r e => .inr (by cases e; exact ⟨by omega, _, hdef, rfl⟩))
    go_wp2
    refine ⟨by simp, .inl ⟨_, _, rfl, run_takeDeferred hdef, ?_⟩⟩
    exact ⟨_, results_none rfl _ _ _, ⟨_, rfl⟩, .inr ⟨_, hp', hJD⟩⟩
theorem reached_seq {Bg Bl Bs bs t n₀ : Nat} {X : Nat → Prop} {T : TypeId} (hT1 : T ≠ 134) (hT2 : T ≠ 23) (hT3 : T ≠ t) {A : Option Addr} {c : Nat} {gates : List PGate} {es : List PE} {lit : Int} {S : Nat → Bool} {w w0 : World}
    (hc : gates.length ≤ 9223372036854775807) (hBg : w.cell? ⟨Bg, 0, none⟩ = some (.slice A gates.length c)) (hBl : w.cell? ⟨Bl, 0, none⟩ = some (.int .i64 lit)) (hBs : w.cell? ⟨Bs, 0, none⟩ = some (.pointer (some ⟨bs, 0, none⟩)))
    (hS : SetAt w bs t S) (hx1 : ¬ XB n₀ X T w Bg) (hx2 : ¬ XB n₀ X T w Bl) (hx3 : ¬ XB n₀ X T w Bs) (hx4 : ¬ XB n₀ X T w bs) (hn1 : bs ≠ Bg) (hn2 : bs ≠ Bl) (hn3 : bs ≠ Bs)
    (hX2 : ∀ k, X k → k < w.heap.size) (hd : GatesL w0 A gates es) (hK0 : ∀ w', KeepX n₀ (fun k => X k ∨ k = bs) T w w' → Keeps w0 w') (hv : ∀ g ∈ gates, 0 ≤ g.var ∧ g.var ≤ 65536) :
    SeqT Try.prog 96 #[.pointer (some ⟨Bs, 0, none⟩), .pointer (some ⟨Bl, 0, none⟩), .pointer (some ⟨Bg, 0, none⟩)] encG (KeepX n₀ X T) (some bs) (reachL (upd S (absN lit) true) es.reverse)
      (fun W => SetAt W bs t (reachS (upd S (absN lit) true) es.reverse)) w := fun l J Jx W hW hab habx hY h0 => by
  have hsame : ∀ k, k < w.heap.size → ¬ XB n₀ X T w k → ¬ XB n₀ X T W k := fun k hk h h' => h (h'.same (hW.block k hk))
  exact reached1_in l Bg Bl Bs bs t n₀ X T hT1 hT2 hT3 A c gates es lit S J Jx W hab habx hY hc (keeps_below hW _ _ hBg) (keeps_below hW _ _ hBl) (keeps_below hW _ _ hBs) (hS.below hW)
    (hsame _ (World.block_lt_of_cell? w _ hBg) hx1) (hsame _ (World.block_lt_of_cell? w _ hBl) hx2) (hsame _ (World.block_lt_of_cell? w _ hBs) hx3) (hsame _ hS.lt hx4) hn1 hn2 hn3 w0
    (fun k h => Nat.lt_of_lt_of_le (hX2 k h) hW.size) hd (fun w' hk => hK0 w' (((KeepX.refl _ _ _ w).below hW).trans hk)) hv h0
end Go.Proofs.Ytnlobmepajakcaa
