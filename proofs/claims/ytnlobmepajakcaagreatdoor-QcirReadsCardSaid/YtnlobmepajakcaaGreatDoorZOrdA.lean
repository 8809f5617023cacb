/- What Order's closures, slices.IndexFunc and slices.Clone of gates do; the condition: Clone is given at most 2^40 gates. -/
import Derived.Test.YtnlobmepajakcaaGreatDoorZDel
import Derived.Test.YtnlobmepajakcaaGreatDoorZPlain
import Derived.Test.YtnlobmepajakcaaGreatDoorZRef
import Derived.Test.YtnlobmepajakcaaGreatDoorZSemO
set_option linter.unusedVariables false
set_option linter.unusedSimpArgs false
namespace Go.Proofs.YtnlobmepajakcaaGreatDoor
open Go.RowKit Go.Shelf

def GOk (w0 : World) (t : GT) (g : PGate) : Prop := t.1 = g.var ∧ t.2.1 = g.kind ∧ (I64 g.var ∧ 0 ≤ g.kind ∧ g.kind ≤ 255) ∧ IntsAt w0 (.slice t.2.2.1 t.2.2.2.1 t.2.2.2.2) g.ins
def RowG (w0 W : World) (base : Nat) (v : Value) (gs : List PGate) : Prop :=
  ∃ es : List (GT × PGate), es.map (·.2) = gs ∧ W.ownsRow base 88 3 v gs.length (gcells (es.map (·.1))) ∧ ∀ e ∈ es, GOk w0 e.1 e.2
theorem RowG.len {w0 W : World} {base : Nat} {v : Value} {gs : List PGate} (h : RowG w0 W base v gs) : ∃ A c, v = .slice A gs.length c ∧ gs.length ≤ c ∧ c ≤ 9223372036854775807 := by
  obtain ⟨es, h1, h2, h3⟩ := h
  rcases h2.2 with ⟨rfl, k2⟩ | ⟨g, cap, cur, rfl, _, _, k5, k6, _⟩
  · exact ⟨none, 0, by rw [k2], by omega, by omega⟩
  · exact ⟨_, cap, rfl, k5, by simpa [maxLen] using k6⟩
theorem RowG.at {w0 W : World} {base : Nat} {v : Value} {gs : List PGate} (h : RowG w0 W base v gs) (hk : Keeps w0 W) : GatesAt W v gs := by
  obtain ⟨A, c, rfl, hc1, hc2⟩ := h.len
  obtain ⟨es, h1, h2, h3⟩ := h
  refine gates_of_cells (base := base) (ts := es.map (·.1)) (by rw [← h1]; simp) h2 (by omega) (fun i t g ht hg => ?_)
  rw [← h1] at hg
  rw [List.getElem?_map] at ht hg
  obtain ⟨e, he, rfl⟩ := Option.map_eq_some_iff.1 ht
  rw [he] at hg
  injection hg with hg
  subst hg
  obtain ⟨k1, k2, k3, k4⟩ := h3 e (List.mem_of_getElem? he)
  exact ⟨k1, k2, k3, k4.keep hk⟩
theorem RowG.move {w0 W W' : World} {base : Nat} {v : Value} {gs : List PGate} (h : RowG w0 W base v gs) {row : Option Nat} (hG : W.grownBy W' row) (hne : v.ownBlock = none ∨ v.ownBlock ≠ row) : RowG w0 W' base v gs := by
  obtain ⟨es, h1, h2, h3⟩ := h
  exact ⟨es, h1, h2.kept hG hne, h3⟩
theorem RowG.below {w0 W W' : World} {base : Nat} {v : Value} {gs : List PGate} (h : RowG w0 W base v gs) (hB : Below W.heap.size W W') : RowG w0 W' base v gs :=
  h.move (grown_of_below hB none) (by cases v.ownBlock <;> simp)
theorem RowG.lt {w0 W : World} {base : Nat} {v : Value} {gs : List PGate} (h : RowG w0 W base v gs) {r : Nat} (hr : v.ownBlock = some r) : base ≤ r ∧ r < W.heap.size := by
  obtain ⟨es, h1, h2, h3⟩ := h
  exact h2.lt r hr
theorem rowG_of {w0 : World} {A : Option Addr} {c : Nat} {gs : List PGate} (h : GatesAt w0 (.slice A gs.length c) gs) : ∃ es : List (GT × PGate), es.map (·.2) = gs ∧ (∀ e ∈ es, GOk w0 e.1 e.2) ∧
    (0 < gs.length → ∃ b off, A = some ⟨b, off, none⟩ ∧ ∀ j u, (gcells (es.map (·.1)))[j]? = some u → w0.cell? ⟨b, off + j, none⟩ = some u) := by
  obtain ⟨es, hes1, hes2⟩ := gates_list h
  have hev := es_gates ⟨hes1, hes2⟩
  refine ⟨es.map fun x => (gtOf x, x.2.1), by rw [List.map_map]; exact hev, fun e he => ?_, fun hp => ?_⟩
  · obtain ⟨x, hx, rfl⟩ := List.mem_map.1 he
    obtain ⟨k, hk, e⟩ := List.getElem_of_mem hx
    have hk' : es[k]? = some x := by rw [← e]; exact List.getElem?_eq_getElem hk
    obtain ⟨-, h2, h3, -⟩ := hes2 k x hk'
    obtain ⟨_, _, _, _, _, _, _, _, h4⟩ := h.at_ k _ h2
    obtain ⟨A', c', e', -, -⟩ := h3.form
    refine ⟨rfl, rfl, h4, ?_⟩
    show IntsAt w0 (.slice (sl3 x.2.2).1 (sl3 x.2.2).2.1 (sl3 x.2.2).2.2) _
    rw [e'] at h3 ⊢
    exact h3
  · obtain ⟨b, off, hA⟩ : ∃ b off, A = some ⟨b, off, none⟩ := by
      obtain ⟨g, hg, -, -⟩ := nth hp
      obtain ⟨b, off, vx, e, _⟩ := h.at_ 0 g hg
      exact ⟨b, off, e⟩
    refine ⟨b, off, hA, fun j u hu => ?_⟩
    have hjl := (List.getElem?_eq_some_iff.1 hu).1
    rw [gcells_length] at hjl
    simp at hjl
    obtain ⟨x, hx⟩ : ∃ x, es[j / 3]? = some x := ⟨_, List.getElem?_eq_getElem (by omega)⟩
    have hget := gcells_get ((es.map fun x => (gtOf x, x.2.1)).map (·.1)) (j / 3) (j % 3) (gtOf x) (by simp [hx]) (by omega)
    have ej : j / 3 * 3 + j % 3 = j := by omega
    rw [ej, hu] at hget
    obtain ⟨-, h2, h3, b', off', e2, c0, c1, c2⟩ := hes2 (j / 3) x hx
    rw [hA] at e2
    cases e2
    obtain ⟨A', c', e', -, -⟩ := h3.form
    have hcase : j % 3 = 0 ∨ j % 3 = 1 ∨ j % 3 = 2 := by omega
    rcases hcase with h0 | h0 | h0
    · rw [h0] at hget
      have : u = .int .i64 x.2.1.var := by simpa [enc3, gtOf] using hget
      rw [this, show off + j = off + j / 3 * 3 by omega]; exact c0
    · rw [h0] at hget
      have : u = .int .u8 x.2.1.kind := by simpa [enc3, gtOf] using hget
      rw [this, show off + j = off + j / 3 * 3 + 1 by omega]; exact c1
    · rw [h0] at hget
      have : u = .slice (sl3 x.2.2).1 (sl3 x.2.2).2.1 (sl3 x.2.2).2.2 := by simpa [enc3, gtOf] using hget
      have e3 : x.2.2 = .slice (sl3 x.2.2).1 (sl3 x.2.2).2.1 (sl3 x.2.2).2.2 := by rw [e']; rfl
      rw [this, ← e3, show off + j = off + j / 3 * 3 + 2 by omega]; exact c2
theorem pick_idx (S : Nat → Bool) : ∀ (gs : List PGate) (b : Int), 0 ≤ b → (pickG S gs = none ∧ idxFrom (readyG S) b gs = -1) ∨
    ∃ (i : Nat) (g : PGate), gs[i]? = some g ∧ idxFrom (readyG S) b gs = b + i ∧ pickG S gs = some (g, gs.eraseIdx i)
  | [], b, hb => .inl ⟨rfl, rfl⟩
  | x :: gs, b, hb => by
    unfold pickG idxFrom
    by_cases h : readyG S x = true
    · rw [if_pos h, if_pos h]
      exact .inr ⟨0, x, rfl, by simp, rfl⟩
    · rw [if_neg h, if_neg h]
      rcases pick_idx S gs (b + 1) (by omega) with ⟨h1, h2⟩ | ⟨i, g, h1, h2, h3⟩
      · exact .inl ⟨by rw [h1]; rfl, h2⟩
      · exact .inr ⟨i + 1, g, by simpa using h1, by rw [h2]; omega, by rw [h3]; rfl⟩
theorem strange68 (b t : Nat) (S : Nat → Bool) (l : Int) (w : World) (hs : SetAt w b t S) :
    Calls Tryz.prog 88 (#[] ++ #[.int .i64 l] ++ #[.pointer (some ⟨b, 0, none⟩)]) w fun e w' => e = .returned (.bool (!S (absN l))) ∧ ∃ n, w' = w.drewN n := by
  have C := has_any b t S l w hs
  generalize S (absN l) = r at C ⊢
  go_enter Tryz.func88, Tryz.ntmps88
  go_wp2_with (go_at_call 89; refine C.mono ?_; rintro e w' ⟨rfl, n, rfl⟩)
  go_ret
  exact ⟨rfl, n, rfl⟩
theorem strange71 (b t : Nat) (S : Nat → Bool) (l : Int) (w : World) (hs : SetAt w b t S) :
    Calls Tryz.prog 93 (#[] ++ #[.int .i64 l] ++ #[.pointer (some ⟨b, 0, none⟩)]) w fun e w' => e = .returned (.bool (!S (absN l))) ∧ ∃ n, w' = w.drewN n := by
  have C := has_any b t S l w hs
  generalize S (absN l) = r at C ⊢
  go_enter Tryz.func93, Tryz.ntmps93
  go_wp2_with (go_at_call 89; refine C.mono ?_; rintro e w' ⟨rfl, n, rfl⟩)
  go_ret
  exact ⟨rfl, n, rfl⟩
theorem strange_list (f : Nat) (fn : Func) (eg : ∀ args w, (callFunc f args).run Tryz.prog w = .ok (.enter f args) w) (b t : Nat) (S : Nat → Bool) (v : Value) (xs : List Int) (w : World) (hs : SetAt w b t S) (h : IntsAt w v xs)
    (hf : ∀ l W, SetAt W b t S → Calls Tryz.prog f (#[] ++ #[.int .i64 l] ++ #[.pointer (some ⟨b, 0, none⟩)]) W fun e w' => e = .returned (.bool (!S (absN l))) ∧ ∃ n, w' = W.drewN n) :
    Calls Tryz.prog 43 #[v, .func (.func f) #[] #[.pointer (some ⟨b, 0, none⟩)]] w fun e w' => e = .returned (.bool (xs.any fun l => !S (absN l))) ∧ Below w.heap.size w w' :=
  containsFunc_ints (fun l => !S (absN l)) f #[] #[.pointer (some ⟨b, 0, none⟩)] eg v xs w (fun W => Below w.heap.size w W) (Below.refl _ _) (fun W hW => h.keep (keeps_below hW))
    (fun l W _ hW => (hf l W (hs.below hW)).mono fun e W' ⟨he, n, hw⟩ => ⟨he, by rw [hw]; exact below_drewN hW n⟩)
theorem waits70 (b t : Nat) (S : Nat → Bool) (x k : Int) (v : Value) (xs : List Int) (w : World) (hs : SetAt w b t S) (h : IntsAt w v xs) :
    Calls Tryz.prog 92 #[.agg #[.int .i64 x, .int .u8 k, v], .pointer (some ⟨b, 0, none⟩)] w fun e w' => e = .returned (.bool (xs.any fun l => !S (absN l))) ∧ Below w.heap.size w w' := by
  obtain ⟨A, c, rfl, hlc, hcm⟩ := h.form
  obtain ⟨w1, hw1, hc1, -, z1, hB1, q1⟩ := new_block w #[.int .i64 x, .int .u8 k, .slice A xs.length c] 88
  have d2 : w1.cell? ⟨w.heap.size, 2, none⟩ = some (.slice A xs.length c) := hc1 2 _ rfl
  have C := strange_list 93 Tryz.f93 (enters_of Tryz.func93 (by kernel_rfl) rfl) b t S _ xs w1 (hs.below hB1) (h.keep (keeps_below hB1)) (fun l W hW => strange71 b t S l W hW)
  generalize (xs.any fun l => !S (absN l)) = r at C ⊢
  clear hc1 q1
  go_enter Tryz.func92, Tryz.ntmps92
  go_wp2_with (go_at_call 43; refine C.mono ?_; rintro e w' ⟨rfl, hB2⟩)
  go_ret
  exact ⟨rfl, below_then hB1 hB1.size hB2⟩
theorem ready73 (B b t : Nat) (S : Nat → Bool) (x k : Int) (v : Value) (xs : List Int) (w : World) (hs : SetAt w b t S) (h : IntsAt w v xs) (hB : w.cell? ⟨B, 0, none⟩ = some (.func (.func 92) #[] #[.pointer (some ⟨b, 0, none⟩)])) :
    Calls Tryz.prog 95 (#[] ++ #[.agg #[.int .i64 x, .int .u8 k, v]] ++ #[.pointer (some ⟨B, 0, none⟩)]) w fun e w' => e = .returned (.bool (!(xs.any fun l => !S (absN l)))) ∧ Below w.heap.size w w' := by
  obtain ⟨A, c, rfl, hlc, hcm⟩ := h.form
  obtain ⟨w1, hw1, hc1, -, z1, hB1, q1⟩ := new_block w #[.int .i64 x, .int .u8 k, .slice A xs.length c] 88
  have d0 : w1.cell? ⟨w.heap.size, 0, none⟩ = some (.int .i64 x) := hc1 0 _ rfl
  have d1 : w1.cell? ⟨w.heap.size, 1, none⟩ = some (.int .u8 k) := hc1 1 _ rfl
  have d2 : w1.cell? ⟨w.heap.size, 2, none⟩ = some (.slice A xs.length c) := hc1 2 _ rfl
  have hB' := keeps_below hB1 _ _ hB
  have C := waits70 b t S x k _ xs w1 (hs.below hB1) (h.keep (keeps_below hB1))
  generalize (xs.any fun l => !S (absN l)) = r at C ⊢
  clear hc1 q1 hB
  go_enter Tryz.func95, Tryz.ntmps95
  go_wp2_with (go_at_call 92; refine C.mono ?_; rintro e w' ⟨rfl, hB2⟩)
  go_ret
  exact ⟨rfl, below_then hB1 hB1.size hB2⟩
set_option maxHeartbeats 1000000 in
theorem indexFunc_gates (p : PGate → Bool) (g : Nat) (fs cb : Array Value) (eg : ∀ args w, (callFunc g args).run Tryz.prog w = .ok (.enter g args) w) (v : Value) (gs : List PGate) (w : World)
    (Inv : World → Prop) (hI : Inv w) (hv : ∀ W, Inv W → GatesAt W v gs)
    (hcall : ∀ (x : PGate) (vi : Value) W, x ∈ gs → Inv W → IntsAt W vi x.ins → Calls Tryz.prog g (fs ++ #[.agg #[.int .i64 x.var, .int .u8 x.kind, vi]] ++ cb) W (fun e W' => e = .returned (.bool (p x)) ∧ Inv W')) :
    Calls Tryz.prog 94 #[v, .func (.func g) fs cb] w fun e w' => e = .returned (.int .i64 (idxFrom p 0 gs)) ∧ Inv w' := by
  obtain ⟨A, c, rfl, hlc, hcm⟩ := SlAt.form (hv w hI)
  have hlen : gs.length ≤ 9223372036854775807 := by omega
  go_enter Tryz.func94, Tryz.ntmps94
  go_wp2
  go_loopg [5, 8] gs.length (fun gg _ s8 wr => ∃ k : Nat, k ≤ gs.length ∧ gs.length - k ≤ gg ∧ s8 = .int .i64 k ∧ Inv wr ∧ Rem (idxFrom p 0 gs) (idxFrom p k (gs.drop k)))
  case atStart => exact ⟨0, Nat.zero_le _, by omega, rfl, hI, ⟨rfl⟩⟩
  case round =>
    obtain ⟨k, hk, hg, rfl, hIw, HA⟩ := hrel
    by_cases hlt : k < gs.length
    · obtain ⟨x, hx, hmem, hd⟩ := nth hlt
      obtain ⟨b, off, vi, rfl, hc0, hc1, hc2, hii, -⟩ := (hv wr hIw).at_ k x hx
      have hcall1 := hcall x vi wr hmem hIw hii
      have hltz : (k : Int) < (gs.length : Int) := by omega
      have HD := hid hd
      obtain ⟨Ai, ci, rfl, -, -⟩ := hii.form
      clear hd hx hcall hv hii
      cases hq : p x with
      | true =>
        rw [hq] at hcall1
        have HQ := hid hq
        clear hq
        go_wp2_with (go_at_fn g; refine hcall1.mono ?_; rintro e w' ⟨rfl, hI'⟩)
        go_ret
        exact ⟨ret_int (by rw [HA.out, HD.out]; simp [idxFrom, HQ.out]), hI'⟩
      | false =>
        rw [hq] at hcall1
        have HQ := hid hq
        clear hq
        go_wp2_with (go_at_fn g; refine hcall1.mono ?_; rintro e w' ⟨rfl, hI'⟩)
        go_roundg (gs.length - (k + 1))
        case measure => omega
        case rel => exact ⟨k + 1, by omega, by omega, by go_num, hI', ⟨by rw [HA.out, HD.out]; simp [idxFrom, HQ.out]⟩⟩
    · have hltz : ¬ (k : Int) < (gs.length : Int) := by omega
      go_wp2
      go_ret
      exact ⟨ret_int (by rw [HA.out, List.drop_eq_nil_of_le (by omega)]; rfl), hIw⟩
set_option maxRecDepth 100000 in
set_option maxHeartbeats 1000000 in
/-- A copy of gates, in memory of the call's own. -/
theorem clone_gates (v : Value) (gs : List PGate) (w0 w : World) (h : GatesAt w0 v gs) (hk : Keeps w0 w) (hn : gs.length ≤ 1099511627776) :
    Calls Tryz.prog 91 #[v] w fun e w' => ∃ v', e = .returned v' ∧ Below w.heap.size w w' ∧ RowG w0 w' w.heap.size v' gs := by
  obtain ⟨A, c, rfl, hlc, hcm⟩ := h.form
  obtain ⟨es, he1, he2, he3⟩ := rowG_of h
  have he := fun W => Lib.run_eql_slice_nil (P := Tryz.prog) W 38 88 A gs.length c 0 0 Tryz.underlying38
  cases A with
  | none =>
    simp only [Option.isNone_none] at he
    have h0 : gs.length = 0 := by
      by_cases hp : 0 < gs.length
      · obtain ⟨b, off, e, _⟩ := he3 hp; cases e
      · omega
    have hg : gs = [] := List.eq_nil_of_length_eq_zero h0
    subst hg
    simp only [List.length_nil] at he ⊢
    clear he3
    go_enter Tryz.func91, Tryz.ntmps91
    go_wp2_with fail
    go_ret
    exact ⟨_, rfl, Below.refl _ _, [], rfl, World.ownsRow_nil _ _ _ _, fun e he => by cases he⟩
  | some ad =>
    simp only [Option.isNone_some] at he
    obtain ⟨i0, hi, hzz⟩ := Option.map_eq_some_iff.1 info70
    simp only [Prod.mk.injEq] at hzz
    obtain ⟨hz0, hz1, hz2⟩ := hzz
    have HI := hid (And.intro hi (And.intro hz0 (And.intro hz1 hz2)))
    clear hi hz0 hz1 hz2
    have hB1 : Below w.heap.size w (w.alloc (.cells #[] 88)) := (Below.refl _ _).alloc (Nat.le_refl _) _
    have hO1 : (w.alloc (.cells #[] 88)).ownsRow w.heap.size 88 3 (.slice (some ⟨w.heap.size, 0, none⟩) 0 0) 0 [] :=
      ⟨rfl, .inr ⟨_, 0, #[], rfl, Nat.le_refl _, heap_alloc_new w _, Nat.le_refl _, by simp [maxLen], rfl, rfl⟩⟩
    have hcl : (gcells (es.map (·.1))).length = gs.length * 3 := by rw [gcells_length, ← he1]; simp
    have hnews : ∀ j u, (gcells (es.map (·.1)))[j]? = some u → (w.alloc (.cells #[] 88)).cell? (ad.add j) = some u := fun j u hu => by
      have hp : 0 < gs.length := by have := (List.getElem?_eq_some_iff.1 hu).1; omega
      obtain ⟨b, off, e, h3⟩ := he3 hp
      cases e
      rw [add_plain]
      exact keeps_below hB1 _ _ (hk _ _ (h3 j u hu))
    have HE := hid (And.intro he1 (And.intro he2 hnews))
    clear he3 he1 he2 hnews
    go_enter Tryz.func91, Tryz.ntmps91
    go_wp2_with (at_builtin; refine wpList_append_own_at _ rfl _ _ 38 rfl w.heap.size 88 i0 (.agg #[.int .i64 0, .int .u8 0, .slice none 0 0]) 3 40 Tryz.underlying38 HI.out.1 HI.out.2.1 HI.out.2.2.1 HI.out.2.2.2 rfl (by decide) (.slice (some ⟨w.heap.size, 0, none⟩) 0 0) 0 [] rfl hO1 ad gs.length c (gcells (es.map (·.1))) rfl hcl HE.out.2.2 (fun u hu => gcells_one u hu) (by simp only [maxLen]; omega) (by omega) hB1.size ?_; intro v' w2 hO2 hG2 _ _)
    rw [Nat.zero_add, List.nil_append] at hO2
    obtain ⟨A', c', rfl⟩ := own_shape hO2
    go_wp2_with fail
    go_ret
    exact ⟨_, rfl, hB1.grown hG2 hB1.size (fun r e => (hO1.lt r e).1), es, HE.out.1, hO2, HE.out.2.1⟩
end Go.Proofs.YtnlobmepajakcaaGreatDoor
