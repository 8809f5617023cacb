/- The order of the gate lines does not change the value of what is read; the conditions: the net is valid and its text short. -/
import Derived.Test.YtnlobmepajakcaaGreatDoorQu
set_option linter.unusedVariables false
set_option linter.unusedSimpArgs false
namespace Go.Proofs.YtnlobmepajakcaaGreatDoor
open Go.RowKit Go.Shelf

theorem len_perm {α β : Type} (f : α → List β) {l gs : List α} (h : l.Perm gs) : (l.flatMap f).length = (gs.flatMap f).length := by
  induction h with
  | nil => rfl
  | cons x _ ih => simp only [List.flatMap_cons, List.length_append, ih]
  | swap x y l => simp only [List.flatMap_cons, List.length_append]; omega
  | trans _ _ ih1 ih2 => rw [ih1, ih2]
theorem text_perm (N : PNet) {l : List PGate} (h : l.Perm N.gates) : (textP ⟨N.pre, l, N.out⟩).length = (textP N).length := by
  unfold textP
  simp only [List.length_append, len_perm gateS h]
theorem read_gatesG : ∀ (gs : List PGate) (r : RS) (no : Nat), r.done = true → GoodG r.seen gs → (∀ g ∈ gs, ∀ x ∈ g.ins, LitOk x) → r.lits + litSum gs ≤ 200000 →
    ∃ n at_, linesP scanL r no (gs.map gateB) = ((0, 0), { r with gates := r.gates ++ gs, seen := usedG r.seen gs, lits := n, at_ := at_ })
  | [], r, no, hd, hR, h, hl => ⟨r.lits, r.at_, by simp [linesP, usedG]⟩
  | g :: gs, r, no, hd, hR, h, hl => by
    obtain ⟨h1, h3⟩ := hR.each g (.head _)
    have hdf := List.pairwise_cons.1 hR.diff
    obtain ⟨hv1, hv2, hv3⟩ := addB_iff.1 h3
    obtain ⟨hk, hnk⟩ := kind_of_shape h1
    obtain ⟨k, hkk⟩ := Int.eq_ofNat_of_zero_le (show 0 ≤ g.kind by omega)
    have hlits : ∀ x ∈ g.ins, LitOk x := h g (by simp)
    have eg : g = ⟨g.var, k, g.ins⟩ := by
      obtain ⟨a, b, c⟩ := g
      simp only at hkk
      rw [hkk]
    have hls : litSum (g :: gs) = g.ins.length + litSum gs := rfl
    have hstep : addL r no (scanL (gateB g)) = (0, { r with seen := upd r.seen g.var.toNat true, lits := r.lits + g.ins.length, gates := r.gates ++ [g], at_ := r.at_ ++ [no] }) := by
      have es : scanL (gateB g) = .gate g.var k g.ins := by
        conv => lhs; rw [eg]
        exact scan_gate ⟨hv1, hv2⟩ (by omega) hlits
      rw [es, addL, if_neg (by rw [hd]; simp), if_neg (by intro h; apply hnk; rw [hkk]; omega), if_neg (by rw [hv3]; simp), if_neg (by omega), ← eg]
    have hg' : GoodG (upd r.seen g.var.toNat true) gs := ⟨fun x hx => ⟨(hR.each x (.tail _ hx)).1, by
        have h1 := (hR.each x (.tail _ hx)).2
        rw [addB_iff] at h1 ⊢
        refine ⟨h1.1, h1.2.1, ?_⟩
        unfold upd
        rw [if_neg (fun e => hdf.1 x hx (by omega))]
        exact h1.2.2⟩, hdf.2⟩
    obtain ⟨n, at_, e⟩ := read_gatesG gs { r with seen := upd r.seen g.var.toNat true, lits := r.lits + g.ins.length, gates := r.gates ++ [g], at_ := r.at_ ++ [no] } (no + 1) hd hg' (fun x hx => h x (by simp [hx])) (by simp only; omega)
    refine ⟨n, at_, ?_⟩
    rw [List.map_cons, lines_step (blank_gate hv1) hstep, e]
    simp [usedG]
theorem lines_perm {N : PNet} (hM : mayP N = true) {l : List PGate} (hp : l.Perm N.gates) : ∃ r, linesP scanL rs0 1 (textL ⟨N.pre, l, N.out⟩) = ((0, 0), r) ∧ r.pre = N.pre ∧ r.gates = l ∧ r.out = N.out ∧ r.done = true ∧ r.seen = usedG (preS N) N.gates := by
  obtain ⟨hpre, hlits, S, hS, hout⟩ := mayP_pre hM
  have hps : (prefFrom none 0 noS N.pre).isSome = true := by rw [hpre]; rfl
  obtain ⟨n, b, e1⟩ := read_blocks N.pre rs0 2 (preS N) (outB N.out :: l.map gateB) rfl (by simpa [rs0] using hpre)
  have hm := may_lits hM
  have hl : LitOk N.out := by
    obtain ⟨p1, p2, p3⟩ := absN_pos hm.2
    exact ⟨p3, p1, p2⟩
  have hli : ∀ g ∈ l, ∀ x ∈ g.ins, LitOk x := fun g hg x hx => by
    obtain ⟨p1, p2, p3⟩ := absN_pos (hm.1 g (hp.mem_iff.1 hg) x hx)
    exact ⟨p3, p1, p2⟩
  have e2 : addL { rs0 with pre := rs0.pre ++ N.pre, seen := preS N, vars := n, begun := b } (2 + N.pre.length) (scanL (outB N.out)) =
      (0, { rs0 with pre := N.pre, seen := preS N, vars := n, begun := b, done := true, outAt := 2 + N.pre.length, out := N.out }) := by
    rw [scan_out hl, addL, if_neg (by simp [rs0])]
    simp [rs0]
  obtain ⟨n2, at_, e3⟩ := read_gatesG l { rs0 with pre := N.pre, seen := preS N, vars := n, begun := b, done := true, outAt := 2 + N.pre.length, out := N.out } (2 + N.pre.length + 1) rfl ((good_of_may _ hS).perm hp) hli (by
    show 0 + litSum l ≤ 200000
    rw [litSum_perm hp]; omega)
  have e0 : linesP scanL rs0 1 (textL ⟨N.pre, l, N.out⟩) = linesP scanL rs0 2 (N.pre.map blockB ++ outB N.out :: l.map gateB) := by
    unfold textL
    rw [linesP, if_pos (by decide)]
  refine ⟨_, by rw [e0, e1, lines_step (by exact blank_of (by decide) (by decide)) e2, e3], rfl, by simp [rs0], rfl, rfl, ?_⟩
  show usedG (preS N) l = _
  rw [usedG_perm hp]
theorem read_perm {N : PNet} (hM : mayP N = true) {l : List PGate} (hp : l.Perm N.gates) (hlen : (textP N).length ≤ 4194304) : ∃ o, readP (textP ⟨N.pre, l, N.out⟩) = (⟨N.pre, o, N.out⟩, 0, 0) ∧ o.length = N.gates.length ∧
    mayP ⟨N.pre, o, N.out⟩ = true ∧ litSum o = litSum N.gates ∧ ∀ a, evalP ⟨N.pre, o, N.out⟩ a = evalP N a := by
  obtain ⟨r, h1, h2, h3, h4, h5, h6⟩ := lines_perm hM hp
  obtain ⟨o, q1, q2, q3, q4, q5⟩ := order_perm hM hp
  obtain ⟨hpre, hlits, S, hS, hout⟩ := mayP_pre hM
  refine ⟨o, ?_, by rw [q2, hp.length_eq], q3, by rw [litSum_perm q4, litSum_perm hp], q5⟩
  unfold readP readW
  rw [if_neg (by rw [text_perm N hp]; omega), text_lines, h1]
  show endR r = _
  have hk := may_known N.gates hS
  unfold endR
  rw [if_neg (by rw [h5]; simp), if_neg (by rw [h6, h4, ← may_used _ hS, hout]; simp), h6, h3, stray_none _ _ (fun g hg x hx => by rw [← may_used _ hS]; exact hk g (hp.mem_iff.1 hg) x hx)]
  simp only
  rw [h2, q1]
  unfold endO
  rw [if_pos rfl, h2, h4]
end Go.Proofs.YtnlobmepajakcaaGreatDoor
