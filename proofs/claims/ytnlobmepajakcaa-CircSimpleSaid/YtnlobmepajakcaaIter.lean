/- What the iterators over a prefix's variables, and over gates from the last to the first, hand to a loop; the condition: the memory that they read lies below what the loop's body writes. -/
import Derived.Test.YtnlobmepajakcaaRange
set_option linter.unusedVariables false
set_option linter.unusedSimpArgs false
namespace Go.Proofs.Ytnlobmepajakcaa
open Go.RowKit Go.Shelf
attribute [local go_sem] Oper.semAt_some

def varsOf (p : List PBlock) : List Int := p.flatMap PBlock.vars
theorem varsOf_drop {p : List PBlock} {k : Nat} {x : PBlock} (h : p.drop k = x :: p.drop (k + 1)) : varsOf (p.drop k) = x.vars ++ varsOf (p.drop (k + 1)) := by
  unfold varsOf; rw [h, List.flatMap_cons]

theorem vars_any (A : Option Addr) (n c : Nat) (w : World) : Calls Try.prog 56 #[.slice A n c] w fun e w' =>
    e = .returned (.func (.func 91) #[] #[.pointer (some ⟨w.heap.size, 0, none⟩)]) ∧ w' = w.alloc (.cells #[.slice A n c] 22) := by
  go_enter Try.func56, Try.ntmps56
  go_wp2
  go_ret
  exact ⟨rfl, rfl⟩
theorem backward_any (A : Option Addr) (n c : Nat) (w : World) : Calls Try.prog 97 #[.slice A n c] w fun e w' =>
    e = .returned (.func (.func 106) #[] #[.pointer (some ⟨w.heap.size, 0, none⟩)]) ∧ w' = w.alloc (.cells #[.slice A n c] 23) := by
  go_enter Try.func97, Try.ntmps97
  go_wp2
  go_ret
  exact ⟨rfl, rfl⟩

set_option maxRecDepth 100000 in
set_option maxHeartbeats 2000000 in
theorem vars1_in (l Bs : Nat) (n₀ : Nat) (X : Nat → Prop) (T : TypeId) (A : Option Addr) (c : Nat) (p : List PBlock) (J Jx : List Int → World → Prop)
    (B0 B1 : Nat) (hab : AbT B0 none J)
    (hY : ∀ pre x rest W, varsOf p = pre ++ x :: rest → J pre W → YieldAt Fence.wide 0 Try.prog l #[.int .i64 x] W fun e W' =>
      (e = .returned (.bool true) ∧ J (pre ++ [x]) W' ∧ KeepX n₀ X T W W') ∨ (e = .returned (.bool false) ∧ Jx (pre ++ [x]) W' ∧ KeepsFrom B1 W W'))
    (W : World) (hc : c ≤ 9223372036854775807) (hBs : W.cell? ⟨Bs, 0, none⟩ = some (.slice A p.length c)) (w0 : World) (hw0 : w0.heap.size ≤ n₀) (hX : ∀ k, X k → w0.heap.size ≤ k)
    (hd : BlocksAt w0 (.slice A p.length c) p) (hB0 : Below w0.heap.size w0 W) (h0 : J [] W) :
    CallsIn Fence.wide 0 Try.prog 91 #[.func (.yield l) #[] #[], .pointer (some ⟨Bs, 0, none⟩)] W fun e W' => (∃ v, e = .returned v) ∧
      ((J (varsOf p) W' ∧ True) ∨ (∃ pre, pre <+: varsOf p ∧ Jx pre W')) := by
  have hro : Fence.wide.round = none := rfl
  refine callsIn_of_wp Try.func91 rfl trivial ?_ hro
  simp only [Try.ntmps91, List.size_toArray, List.length_cons, List.length_nil, Nat.reduceAdd, Nat.reduceSub, Array.replicate_succ, Array.replicate_zero, List.push_toArray, List.append_toArray, List.nil_append, List.cons_append]
  have hpl : p.length ≤ c := by obtain ⟨A', c', e, h1, h2⟩ := hd.form; cases e; exact h1
  gi_wp2
  gi_loopw [6, 9] (fun _ i wr => ∃ (k : Nat) (pre : List Int), k ≤ p.length ∧ i = .int .i64 k ∧ J pre wr ∧ KeepX n₀ X T W wr ∧ Rem (varsOf p) (pre ++ varsOf (p.drop k)))
    (fun _ i _ => p.length - (intOf i).toNat)
  case atStart => exact ⟨0, [], Nat.zero_le _, rfl, h0, KeepX.refl _ _ _ _, ⟨rfl⟩⟩
  case round =>
    obtain ⟨k, pre, hk, rfl, hJ, hB, hR⟩ := hrel
    by_cases hlt : k < p.length
    · obtain ⟨x, hx, -, hdr⟩ := nth hlt
      obtain ⟨b, off, vx, eA, hc0', hc1', hi⟩ := hd.at_ k x hx
      subst eA
      obtain ⟨Ax, cx, rfl, hlx, hcx⟩ := hi.form
      have hBw := hB.toBelow hB0 hw0 hX
      have hc0 := keeps_below hBw _ _ hc0'
      have hc1 := keeps_below hBw _ _ hc1'
      obtain ⟨w1, hw1, hc1w, -, hz1, hB1, hrow1⟩ := new_block wr #[.bool x.ex, .slice Ax x.vars.length cx] 80
      have hx1 : w1.cell? ⟨wr.heap.size, 1, none⟩ = some (.slice Ax x.vars.length cx) := hc1w 1 _ rfl
      have hJ1 : J pre w1 := by rw [← hw1]; exact hab.alloc _ hJ
      have hB01 : KeepX n₀ X T W w1 := hB.below hB1
      have hltz : (k : Int) < (p.length : Int) := by omega
      have HX := hid hx
      have hR1 : Rem (varsOf p) (pre ++ (x.vars.drop 0 ++ varsOf (p.drop (k + 1)))) := ⟨by rw [hR.out, varsOf_drop hdr]; rfl⟩
      clear hdr hx hR
      gi_wp2
      gi_loopw [6, 16] (fun _ i W2 => ∃ (j : Nat) (pre2 : List Int), j ≤ x.vars.length ∧ i = .int .i64 j ∧ J pre2 W2 ∧ KeepX n₀ X T W W2 ∧ Rem (varsOf p) (pre2 ++ (x.vars.drop j ++ varsOf (p.drop (k + 1)))))
        (fun _ i _ => x.vars.length - (intOf i).toNat)
      case atStart => exact ⟨0, pre, Nat.zero_le _, rfl, hJ1, hB01, hR1⟩
      case round =>
        clear hJ hJ1 hB hB01 hR1
        obtain ⟨j, pre2, hj, rfl, hJ2, hB2, hR2⟩ := hrel
        by_cases hltj : j < x.vars.length
        · obtain ⟨y, hy, -, hdy⟩ := nth hltj
          obtain ⟨b2, off2, rfl, k1, -⟩ := (hi.keep (keeps_below (hB2.toBelow hB0 hw0 hX))).at_ j y hy
          have hE : varsOf p = pre2 ++ (y :: (x.vars.drop (j + 1) ++ varsOf (p.drop (k + 1)))) := by rw [hR2.out, hdy]; rfl
          have hltz2 : (j : Int) < (x.vars.length : Int) := by omega
          obtain ⟨fn, tmps, assign, body, hy2, hR⟩ := hY pre2 y _ wr hE hJ2
          have HE := hid hE
          clear hE hdy hy
          gi_wp2
          refine ⟨rfl, hR.mono ?_⟩
          rintro e W3 (⟨rfl, hJ3, hk3⟩ | ⟨rfl, hJx3, -⟩)
          · gi_wp2
            go_roundw
            case rel => exact ⟨j + 1, pre2 ++ [y], by omega, by go_num, hJ3, hB2.trans hk3, ⟨by rw [HE.out]; simp⟩⟩
            case measure => simp [intOf]; omega
          · gi_wp2
            refine bodyPost_ret (results_none rfl _ _ _) rfl ?_
            exact ⟨⟨_, rfl⟩, Or.inr ⟨_, ⟨x.vars.drop (j + 1) ++ varsOf (p.drop (k + 1)), by rw [HE.out]; simp⟩, hJx3⟩⟩
        · have hltz2 : ¬ (j : Int) < (x.vars.length : Int) := by omega
          gi_wp2
          go_roundw
          case rel => exact ⟨k + 1, pre2, by omega, by go_num, hJ2, hB2, ⟨by rw [hR2.out, List.drop_eq_nil_of_le (by omega : x.vars.length ≤ j)]; simp⟩⟩
          case measure => simp [intOf]; omega
    · have hE : varsOf p = pre := by rw [hR.out, List.drop_eq_nil_of_le (by omega)]; simp [varsOf]
      have hltz : ¬ (k : Int) < (p.length : Int) := by omega
      have HE := hid hE
      clear hE
      gi_wp2
      go_end0
      exact ⟨⟨_, rfl⟩, .inl (by rw [HE.out]; exact hJ)⟩
theorem vars_seq {Bs n₀ : Nat} {X : Nat → Prop} {T : TypeId} {A : Option Addr} {c : Nat} {p : List PBlock} {w w0 : World} (hc : c ≤ 9223372036854775807)
    (hBs : w.cell? ⟨Bs, 0, none⟩ = some (.slice A p.length c)) (hw0 : w0.heap.size ≤ n₀) (hX : ∀ k, X k → w0.heap.size ≤ k) (hd : BlocksAt w0 (.slice A p.length c) p) (hB0 : Below w0.heap.size w0 w) :
    SeqT Try.prog 91 #[.pointer (some ⟨Bs, 0, none⟩)] (fun x : Int => #[.int .i64 x]) (KeepX n₀ X T) none (varsOf p) (fun _ => True) w := fun l J Jx W hW hab habx hY h0 =>
  vars1_in l Bs n₀ X T A c p J Jx _ _ hab hY W hc (keeps_below hW _ _ hBs) w0 hw0 hX hd (below_then hB0 hB0.size hW) h0

/-- The gates with their places and their inputs' slices. -/
def GatesL (w : World) (A : Option Addr) (gates : List PGate) (es : List (Nat × PGate × Value)) : Prop :=
  es.length = gates.length ∧ ∀ k x, es[k]? = some x → x.1 = k ∧ gates[k]? = some x.2.1 ∧ IntsAt w x.2.2 x.2.1.ins ∧ ∃ b off, A = some ⟨b, off, none⟩ ∧
    w.cell? ⟨b, off + k * 3, none⟩ = some (.int .i64 x.2.1.var) ∧ w.cell? ⟨b, off + k * 3 + 1, none⟩ = some (.int .u8 x.2.1.kind) ∧ w.cell? ⟨b, off + k * 3 + 2, none⟩ = some x.2.2
open Classical in
theorem gates_list {w : World} {A : Option Addr} {c : Nat} {gates : List PGate} (h : GatesAt w (.slice A gates.length c) gates) : ∃ es, GatesL w A gates es := by
  have hall : ∀ k : Nat, ∃ x : Nat × PGate × Value, k < gates.length → x.1 = k ∧ gates[k]? = some x.2.1 ∧ IntsAt w x.2.2 x.2.1.ins ∧ ∃ b off, A = some ⟨b, off, none⟩ ∧
    w.cell? ⟨b, off + k * 3, none⟩ = some (.int .i64 x.2.1.var) ∧ w.cell? ⟨b, off + k * 3 + 1, none⟩ = some (.int .u8 x.2.1.kind) ∧ w.cell? ⟨b, off + k * 3 + 2, none⟩ = some x.2.2 := fun k => by
    by_cases hk : k < gates.length
    · obtain ⟨g, hg, -, -⟩ := nth hk
      obtain ⟨b, off, vx, e, h1, h2, h3, h4⟩ := h.at_ k g hg
      exact ⟨(k, g, vx), fun _ => ⟨rfl, hg, h4.1, b, off, e, h1, h2, h3⟩⟩
    · exact ⟨(0, ⟨0, 0, []⟩, .nilFunc), fun h => absurd h hk⟩
  refine ⟨(List.range gates.length).map fun k => Classical.choose (hall k), by simp, fun k x hx => ?_⟩
  have hk : k < gates.length := by have := (List.getElem?_eq_some_iff.1 hx).1; simpa using this
  rw [List.getElem?_map, List.getElem?_range hk] at hx
  injection hx with hx
  rw [← hx]
  exact Classical.choose_spec (hall k) hk
def encG (x : Nat × PGate × Value) : Array Value := #[.int .i64 x.1, .agg #[.int .i64 x.2.1.var, .int .u8 x.2.1.kind, x.2.2]]
theorem rev_split {α : Type} {es : List α} {k : Nat} {x : α} (h : es[k]? = some x) : es.reverse = (es.drop (k + 1)).reverse ++ x :: (es.take k).reverse := by
  have hk := (List.getElem?_eq_some_iff.1 h).1
  have hx := (List.getElem?_eq_some_iff.1 h).2
  have e : es = es.take k ++ x :: es.drop (k + 1) := by
    rw [← hx, List.getElem_cons_drop, List.take_append_drop]
  have := congrArg List.reverse e
  simpa using this
set_option maxRecDepth 100000 in
set_option maxHeartbeats 2000000 in
theorem backward1_in (l Bs : Nat) (n₀ : Nat) (X : Nat → Prop) (T : TypeId) (A : Option Addr) (c : Nat) (gates : List PGate) (es : List (Nat × PGate × Value)) (J Jx : List (Nat × PGate × Value) → World → Prop)
    (B0 B1 : Nat) (hab : AbT B0 none J)
    (hY : ∀ pre x rest W, es.reverse = pre ++ x :: rest → J pre W → YieldAt Fence.wide 0 Try.prog l (encG x) W fun e W' =>
      (e = .returned (.bool true) ∧ J (pre ++ [x]) W' ∧ KeepX n₀ X T W W') ∨ (e = .returned (.bool false) ∧ Jx (pre ++ [x]) W' ∧ KeepsFrom B1 W W'))
    (W : World) (hc : gates.length ≤ 9223372036854775807) (hBs : W.cell? ⟨Bs, 0, none⟩ = some (.slice A gates.length c)) (hBx : ¬ XB n₀ X T W Bs) (w0 : World)
    (hd : GatesL w0 A gates es) (hK0 : ∀ w', KeepX n₀ X T W w' → Keeps w0 w') (h0 : J [] W) :
    CallsIn Fence.wide 0 Try.prog 106 #[.func (.yield l) #[] #[], .pointer (some ⟨Bs, 0, none⟩)] W fun e W' => (∃ v, e = .returned v) ∧
      ((J es.reverse W' ∧ True) ∨ (∃ pre, pre <+: es.reverse ∧ Jx pre W')) := by
  have hro : Fence.wide.round = none := rfl
  refine callsIn_of_wp Try.func106 rfl trivial ?_ hro
  simp only [Try.ntmps106, List.size_toArray, List.length_cons, List.length_nil, Nat.reduceAdd, Nat.reduceSub, Array.replicate_succ, Array.replicate_zero, List.push_toArray, List.append_toArray, List.nil_append, List.cons_append]
  obtain ⟨hel, hes⟩ := hd
  have hw1 : IntKind.i64.wrap ((gates.length : Int) - 1) = (gates.length : Int) - 1 := IntWalk.i64_in _ (by omega)
  gi_wp2
  gi_loopw [3] (fun i wr => ∃ (k : Nat), k ≤ gates.length ∧ i = .int .i64 ((k : Int) - 1) ∧ J (es.drop k).reverse wr ∧ KeepX n₀ X T W wr)
    (fun i _ => (intOf i + 1).toNat)
  case atStart => exact ⟨gates.length, Nat.le_refl _, rfl, by rw [List.drop_eq_nil_of_le (by omega)]; exact h0, KeepX.refl _ _ _ _⟩
  case round =>
    clear hw1
    obtain ⟨k, hk, rfl, hJ, hB⟩ := hrel
    have hBs2 : wr.cell? ⟨Bs, 0, none⟩ = some (.slice A gates.length c) := hB.cell hBs hBx
    by_cases hlt : 0 < k
    · obtain ⟨m, rfl⟩ : ∃ m, k = m + 1 := ⟨k - 1, by omega⟩
      obtain ⟨⟨i, g, vi⟩, hx, -, -⟩ := nth (show m < es.length by omega)
      obtain ⟨rfl, hg, hi, b, off, rfl, hc0, hc1, hc2⟩ := hes m _ hx
      obtain ⟨Ax, cx, e, hlx, hcx⟩ := hi.form
      have e' : vi = .slice Ax g.ins.length cx := e
      subst e'
      clear e
      have hBw := hK0 _ hB
      have hd0 := hBw _ _ hc0
      have hd1 := hBw _ _ hc1
      have hd2 := hBw _ _ hc2
      have hsp := rev_split hx
      obtain ⟨fn, tmps, assign, body, hy2, hR⟩ := hY _ _ _ wr hsp hJ
      dsimp only [encG] at hy2
      have hmm : (((i + 1 : Nat) : Int) - 1) = (i : Int) := by omega
      rw [hmm]
      have hge : (0 : Int) ≤ (i : Int) := by omega
      have hlt2 : (i : Int) < (gates.length : Int) := by omega
      have hw2 : IntKind.i64.wrap ((i : Int) - 1) = (i : Int) - 1 := IntWalk.i64_in _ (by omega)
      have HS := hid hsp
      have HSX : Hid ((i, g, Value.slice Ax g.ins.length cx) :: es.drop (i + 1) = es.drop i) := by
        obtain ⟨h1, h2⟩ := List.getElem?_eq_some_iff.1 hx
        exact (by rw [← h2]; exact (List.drop_eq_getElem_cons h1).symm)
      clear hx hsp hc0 hc1 hc2
      gi_wp2
      refine ⟨rfl, hR.mono ?_⟩
      rintro e W3 (⟨rfl, hJ3, hk3⟩ | ⟨rfl, hJx3, -⟩)
      · gi_wp2
        go_roundw
        case rel =>
          refine ⟨i, by omega, rfl, ?_, hB.trans hk3⟩
          rw [← List.reverse_cons, HSX.out] at hJ3
          exact hJ3
        case measure => simp [intOf]
      · gi_wp2
        refine bodyPost_ret (results_none rfl _ _ _) rfl ?_
        exact ⟨⟨_, rfl⟩, .inr ⟨_, ⟨(es.take i).reverse, by rw [HS.out]; simp⟩, hJx3⟩⟩
    · have hk0 : k = 0 := by omega
      subst hk0
      gi_wp2
      go_end0
      exact ⟨⟨_, rfl⟩, .inl (by rw [List.drop_zero] at hJ; exact ⟨hJ, trivial⟩)⟩
theorem backward_seq {Bs n₀ : Nat} {X : Nat → Prop} {T : TypeId} {A : Option Addr} {c : Nat} {gates : List PGate} {es : List (Nat × PGate × Value)} {w w0 : World} (hc : gates.length ≤ 9223372036854775807)
    (hBs : w.cell? ⟨Bs, 0, none⟩ = some (.slice A gates.length c)) (hBx : ¬ XB n₀ X T w Bs) (hd : GatesL w0 A gates es) (hK0 : ∀ w', KeepX n₀ X T w w' → Keeps w0 w') :
    SeqT Try.prog 106 #[.pointer (some ⟨Bs, 0, none⟩)] encG (KeepX n₀ X T) none es.reverse (fun _ => True) w := fun l J Jx W hW hab habx hY h0 =>
  backward1_in l Bs n₀ X T A c gates es J Jx _ _ hab hY W hc (keeps_below hW _ _ hBs) (fun h => hBx (h.same (hW.block Bs (World.block_lt_of_cell? w _ hBs)))) w0 hd (fun w' hk => hK0 w' (((KeepX.refl n₀ X T w).below hW).trans hk)) h0
end Go.Proofs.Ytnlobmepajakcaa
