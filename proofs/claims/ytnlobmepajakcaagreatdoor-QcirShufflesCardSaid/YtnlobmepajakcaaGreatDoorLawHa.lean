/- What QcirShuffles returns: true; the condition: each gate has at most 2^44 literals. -/
import Derived.Test.YtnlobmepajakcaaGreatDoorLawB
import Derived.Test.YtnlobmepajakcaaGreatDoorSh
import Derived.Test.YtnlobmepajakcaaGreatDoorRefV
import Derived.Deep.RegionHeld3
set_option linter.unusedVariables false
set_option linter.unusedSimpArgs false
namespace Go.Proofs.YtnlobmepajakcaaGreatDoor
open Go.RowKit Go.Shelf
attribute [local go_sem] Oper.semAt_some

def U16C (w : World) (b o : Nat) (x : Nat) : Prop := w.cell? ⟨b, o, none⟩ = some (.int .u16 (x : Int)) ∧ x ≤ 65535
def U16sAt (w : World) (v : Value) (xs : List Nat) : Prop := SlAt 1 U16C w v xs
theorem U16sAt.keep {w w' : World} {v : Value} {xs : List Nat} (h : U16sAt w v xs) (hk : Keeps w w') : U16sAt w' v xs := SlAt.keep h fun _ _ _ h => ⟨hk _ _ h.1, h.2⟩
theorem U16sAt.at_ {w : World} {A : Option Addr} {n c : Nat} {xs : List Nat} (h : U16sAt w (.slice A n c) xs) (k : Nat) (x : Nat) (hx : xs[k]? = some x) :
    ∃ b off, A = some ⟨b, off, none⟩ ∧ w.cell? ⟨b, off + k, none⟩ = some (.int .u16 (x : Int)) ∧ x ≤ 65535 := by
  obtain ⟨A', c', e, h1, h2, h3⟩ := h
  cases e
  obtain ⟨b, off, e2, h4⟩ := h3 (by have := (List.getElem?_eq_some_iff.1 hx).1; omega)
  have := h4 k x hx
  rw [Nat.mul_one] at this
  exact ⟨b, off, e2, this.1, this.2⟩
set_option maxRecDepth 100000 in
set_option maxHeartbeats 4000000 in
theorem QcirShuffles_great (v vs va : Value) (N : PNet) (sw : List Nat) (a : List Int) (w : World) (h : NetAt w v N) (hb : ∀ g ∈ N.gates, g.ins.length ≤ 17592186044416) (hsw : U16sAt w vs sw) (ha : IntsAt w va a) (hE : Env w) (hg : greatB N = true) :
    Calls Tryz.prog 4 #[v, vs, va] w fun e w' => e = .returned (.bool true) ∧ Below w.heap.size w w' := by
  obtain ⟨Ap, cp, Ag, cg, rfl⟩ := net_parts h
  obtain ⟨As, cs, rfl, hsl, hsm⟩ := hsw.form
  obtain ⟨Aa, ca, rfl, hal, ham⟩ := ha.form
  obtain ⟨w1, hw1, -, -, hz1, hB1, q1⟩ := new_block w #[.slice Ap N.pre.length cp, .slice Ag N.gates.length cg, .int .i64 N.out] 40
  have rows : ∀ W, Below w1.heap.size w1 W → W.cell? ⟨w.heap.size, 0, none⟩ = some (.slice Ap N.pre.length cp) ∧ W.cell? ⟨w.heap.size, 1, none⟩ = some (.slice Ag N.gates.length cg) ∧ W.cell? ⟨w.heap.size, 2, none⟩ = some (.int .i64 N.out) := fun W hW =>
    ⟨cell_row (row_below q1 hW) rfl, cell_row (row_below q1 hW) rfl, cell_row (row_below q1 hW) rfl⟩
  have nets : ∀ W, Below w1.heap.size w1 W → NetAt W (.agg #[.slice Ap N.pre.length cp, .slice Ag N.gates.length cg, .int .i64 N.out]) N := fun W hW => h.keep (keeps_below (below_then hB1 hB1.size hW))
  have ints : ∀ W, Below w1.heap.size w1 W → IntsAt W (.slice Aa a.length ca) a := fun W hW => ha.keep (keeps_below (below_then hB1 hB1.size hW))
  have envs : ∀ W, Below w1.heap.size w1 W → Env W := fun W hW => hE.below (below_then hB1 hB1.size hW) hE.size
  have fin : ∀ W, Below w1.heap.size w1 W → Below w.heap.size w W := fun W hW => below_then hB1 hB1.size hW
  have R0 := Below.refl w1.heap.size w1
  have CG := great_any _ N w1 (nets w1 R0) hb
  obtain ⟨a0, a1, a2⟩ := rows w1 R0
  rw [hg] at CG
  clear h q1 hB1 hsw ha hg
  go_enter Tryz.func4, Tryz.ntmps4
  go_wp2_with fail
  refine CG.mono ?_
  rintro e w2 ⟨rfl, hB2⟩
  go_wp2_with fail
  refine (works_any w2 (envs w2 hB2)).mono ?_
  rintro e wk ⟨rfl, hBk⟩
  go_wp2_with fail
  go_ret
  exact ⟨rfl, fin wk (below_le hB2 (Nat.le_refl _) hBk)⟩
set_option maxRecDepth 100000 in
set_option maxHeartbeats 4000000 in
theorem QcirShuffles_many (v vs va : Value) (N : PNet) (sw : List Nat) (a : List Int) (w : World) (h : NetAt w v N) (hb : ∀ g ∈ N.gates, g.ins.length ≤ 17592186044416) (hsw : U16sAt w vs sw) (ha : IntsAt w va a) (hE : Env w) (hg : greatB N = false) (hl : 300 < sw.length) :
    Calls Tryz.prog 4 #[v, vs, va] w fun e w' => e = .returned (.bool true) ∧ Below w.heap.size w w' := by
  obtain ⟨Ap, cp, Ag, cg, rfl⟩ := net_parts h
  obtain ⟨As, cs, rfl, hsl, hsm⟩ := hsw.form
  obtain ⟨Aa, ca, rfl, hal, ham⟩ := ha.form
  obtain ⟨w1, hw1, -, -, hz1, hB1, q1⟩ := new_block w #[.slice Ap N.pre.length cp, .slice Ag N.gates.length cg, .int .i64 N.out] 40
  have rows : ∀ W, Below w1.heap.size w1 W → W.cell? ⟨w.heap.size, 0, none⟩ = some (.slice Ap N.pre.length cp) ∧ W.cell? ⟨w.heap.size, 1, none⟩ = some (.slice Ag N.gates.length cg) ∧ W.cell? ⟨w.heap.size, 2, none⟩ = some (.int .i64 N.out) := fun W hW =>
    ⟨cell_row (row_below q1 hW) rfl, cell_row (row_below q1 hW) rfl, cell_row (row_below q1 hW) rfl⟩
  have nets : ∀ W, Below w1.heap.size w1 W → NetAt W (.agg #[.slice Ap N.pre.length cp, .slice Ag N.gates.length cg, .int .i64 N.out]) N := fun W hW => h.keep (keeps_below (below_then hB1 hB1.size hW))
  have ints : ∀ W, Below w1.heap.size w1 W → IntsAt W (.slice Aa a.length ca) a := fun W hW => ha.keep (keeps_below (below_then hB1 hB1.size hW))
  have envs : ∀ W, Below w1.heap.size w1 W → Env W := fun W hW => hE.below (below_then hB1 hB1.size hW) hE.size
  have fin : ∀ W, Below w1.heap.size w1 W → Below w.heap.size w W := fun W hW => below_then hB1 hB1.size hW
  have R0 := Below.refl w1.heap.size w1
  have CG := great_any _ N w1 (nets w1 R0) hb
  obtain ⟨a0, a1, a2⟩ := rows w1 R0
  rw [hg] at CG
  have hz : (300 : Int) < (sw.length : Int) := by omega
  clear h q1 hB1 hsw ha hg hl
  go_enter Tryz.func4, Tryz.ntmps4
  go_wp2_with fail
  refine CG.mono ?_
  rintro e w2 ⟨rfl, hB2⟩
  go_wp2_with fail
  refine (works_any w2 (envs w2 hB2)).mono ?_
  rintro e wk ⟨rfl, hBk⟩
  go_wp2_with fail
  go_ret
  exact ⟨rfl, fin wk (below_le hB2 (Nat.le_refl _) hBk)⟩
set_option maxRecDepth 100000 in
set_option maxHeartbeats 4000000 in
theorem QcirShuffles_long (v vs va : Value) (N : PNet) (sw : List Nat) (a : List Int) (w : World) (h : NetAt w v N) (hb : ∀ g ∈ N.gates, g.ins.length ≤ 17592186044416) (hsw : U16sAt w vs sw) (ha : IntsAt w va a) (hE : Env w) (hg : greatB N = false) (hl : ¬ 300 < sw.length) (hal2 : 200 < a.length) :
    Calls Tryz.prog 4 #[v, vs, va] w fun e w' => e = .returned (.bool true) ∧ Below w.heap.size w w' := by
  obtain ⟨Ap, cp, Ag, cg, rfl⟩ := net_parts h
  obtain ⟨As, cs, rfl, hsl, hsm⟩ := hsw.form
  obtain ⟨Aa, ca, rfl, hal, ham⟩ := ha.form
  obtain ⟨w1, hw1, -, -, hz1, hB1, q1⟩ := new_block w #[.slice Ap N.pre.length cp, .slice Ag N.gates.length cg, .int .i64 N.out] 40
  have rows : ∀ W, Below w1.heap.size w1 W → W.cell? ⟨w.heap.size, 0, none⟩ = some (.slice Ap N.pre.length cp) ∧ W.cell? ⟨w.heap.size, 1, none⟩ = some (.slice Ag N.gates.length cg) ∧ W.cell? ⟨w.heap.size, 2, none⟩ = some (.int .i64 N.out) := fun W hW =>
    ⟨cell_row (row_below q1 hW) rfl, cell_row (row_below q1 hW) rfl, cell_row (row_below q1 hW) rfl⟩
  have nets : ∀ W, Below w1.heap.size w1 W → NetAt W (.agg #[.slice Ap N.pre.length cp, .slice Ag N.gates.length cg, .int .i64 N.out]) N := fun W hW => h.keep (keeps_below (below_then hB1 hB1.size hW))
  have ints : ∀ W, Below w1.heap.size w1 W → IntsAt W (.slice Aa a.length ca) a := fun W hW => ha.keep (keeps_below (below_then hB1 hB1.size hW))
  have envs : ∀ W, Below w1.heap.size w1 W → Env W := fun W hW => hE.below (below_then hB1 hB1.size hW) hE.size
  have fin : ∀ W, Below w1.heap.size w1 W → Below w.heap.size w W := fun W hW => below_then hB1 hB1.size hW
  have R0 := Below.refl w1.heap.size w1
  have CG := great_any _ N w1 (nets w1 R0) hb
  obtain ⟨a0, a1, a2⟩ := rows w1 R0
  rw [hg] at CG
  have hz : decide ((300 : Int) < (sw.length : Int)) = false := decide_eq_false (by omega)
  have hz2 : (200 : Int) < (a.length : Int) := by omega
  clear h q1 hB1 hsw ha hg hl hal2
  go_enter Tryz.func4, Tryz.ntmps4
  go_wp2_with fail
  refine CG.mono ?_
  rintro e w2 ⟨rfl, hB2⟩
  go_wp2_with fail
  refine (works_any w2 (envs w2 hB2)).mono ?_
  rintro e wk ⟨rfl, hBk⟩
  go_wp2_with fail
  go_ret
  exact ⟨rfl, fin wk (below_le hB2 (Nat.le_refl _) hBk)⟩
set_option maxRecDepth 100000 in
set_option maxHeartbeats 4000000 in
theorem QcirShuffles_bad (v vs va : Value) (N : PNet) (sw : List Nat) (a : List Int) (w : World) (h : NetAt w v N) (hb : ∀ g ∈ N.gates, g.ins.length ≤ 17592186044416) (hsw : U16sAt w vs sw) (ha : IntsAt w va a) (hE : Env w) (hg : greatB N = false) (hl : ¬ 300 < sw.length) (hal2 : ¬ 200 < a.length) (hM : mayP N = false) :
    Calls Tryz.prog 4 #[v, vs, va] w fun e w' => e = .returned (.bool true) ∧ Below w.heap.size w w' := by
  obtain ⟨Ap, cp, Ag, cg, rfl⟩ := net_parts h
  obtain ⟨As, cs, rfl, hsl, hsm⟩ := hsw.form
  obtain ⟨Aa, ca, rfl, hal, ham⟩ := ha.form
  obtain ⟨w1, hw1, -, -, hz1, hB1, q1⟩ := new_block w #[.slice Ap N.pre.length cp, .slice Ag N.gates.length cg, .int .i64 N.out] 40
  have rows : ∀ W, Below w1.heap.size w1 W → W.cell? ⟨w.heap.size, 0, none⟩ = some (.slice Ap N.pre.length cp) ∧ W.cell? ⟨w.heap.size, 1, none⟩ = some (.slice Ag N.gates.length cg) ∧ W.cell? ⟨w.heap.size, 2, none⟩ = some (.int .i64 N.out) := fun W hW =>
    ⟨cell_row (row_below q1 hW) rfl, cell_row (row_below q1 hW) rfl, cell_row (row_below q1 hW) rfl⟩
  have nets : ∀ W, Below w1.heap.size w1 W → NetAt W (.agg #[.slice Ap N.pre.length cp, .slice Ag N.gates.length cg, .int .i64 N.out]) N := fun W hW => h.keep (keeps_below (below_then hB1 hB1.size hW))
  have ints : ∀ W, Below w1.heap.size w1 W → IntsAt W (.slice Aa a.length ca) a := fun W hW => ha.keep (keeps_below (below_then hB1 hB1.size hW))
  have envs : ∀ W, Below w1.heap.size w1 W → Env W := fun W hW => hE.below (below_then hB1 hB1.size hW) hE.size
  have fin : ∀ W, Below w1.heap.size w1 W → Below w.heap.size w W := fun W hW => below_then hB1 hB1.size hW
  have R0 := Below.refl w1.heap.size w1
  have CG := great_any _ N w1 (nets w1 R0) hb
  obtain ⟨a0, a1, a2⟩ := rows w1 R0
  rw [hg] at CG
  obtain ⟨hgl, hgs⟩ := great_no hg
  have hz : decide ((300 : Int) < (sw.length : Int)) = false := decide_eq_false (by omega)
  have hz2 : decide ((200 : Int) < (a.length : Int)) = false := decide_eq_false (by omega)
  clear h q1 hB1 hsw ha hg hl hal2
  go_enter Tryz.func4, Tryz.ntmps4
  go_wp2_with fail
  refine CG.mono ?_
  rintro e w2 ⟨rfl, hB2⟩
  obtain ⟨b0, b1, b2⟩ := rows w2 hB2
  have CM := MayR_any _ N w2 (nets w2 hB2) (by omega) (by omega)
  rw [hM] at CM
  clear a0 a1 a2 CG
  go_wp2_with fail
  refine CM.mono ?_
  rintro e w3 ⟨rfl, hB3⟩
  have hB13 := below_le hB2 (Nat.le_refl _) hB3
  clear b0 b1 b2 CM
  go_wp2_with fail
  refine (works_any w3 (envs w3 hB13)).mono ?_
  rintro e wk ⟨rfl, hBk⟩
  go_wp2_with fail
  go_ret
  exact ⟨rfl, fin wk (below_le hB13 (Nat.le_refl _) hBk)⟩
set_option maxRecDepth 100000 in
set_option maxHeartbeats 4000000 in
theorem QcirShuffles_odd (v vs va : Value) (N : PNet) (sw : List Nat) (a : List Int) (w : World) (h : NetAt w v N) (hb : ∀ g ∈ N.gates, g.ins.length ≤ 17592186044416) (hsw : U16sAt w vs sw) (ha : IntsAt w va a) (hE : Env w) (hg : greatB N = false) (hl : ¬ 300 < sw.length) (hal2 : ¬ 200 < a.length) (hM : mayP N = true) (hn : normFrom 0 a = false) :
    Calls Tryz.prog 4 #[v, vs, va] w fun e w' => e = .returned (.bool true) ∧ Below w.heap.size w w' := by
  obtain ⟨Ap, cp, Ag, cg, rfl⟩ := net_parts h
  obtain ⟨As, cs, rfl, hsl, hsm⟩ := hsw.form
  obtain ⟨Aa, ca, rfl, hal, ham⟩ := ha.form
  obtain ⟨w1, hw1, -, -, hz1, hB1, q1⟩ := new_block w #[.slice Ap N.pre.length cp, .slice Ag N.gates.length cg, .int .i64 N.out] 40
  have rows : ∀ W, Below w1.heap.size w1 W → W.cell? ⟨w.heap.size, 0, none⟩ = some (.slice Ap N.pre.length cp) ∧ W.cell? ⟨w.heap.size, 1, none⟩ = some (.slice Ag N.gates.length cg) ∧ W.cell? ⟨w.heap.size, 2, none⟩ = some (.int .i64 N.out) := fun W hW =>
    ⟨cell_row (row_below q1 hW) rfl, cell_row (row_below q1 hW) rfl, cell_row (row_below q1 hW) rfl⟩
  have nets : ∀ W, Below w1.heap.size w1 W → NetAt W (.agg #[.slice Ap N.pre.length cp, .slice Ag N.gates.length cg, .int .i64 N.out]) N := fun W hW => h.keep (keeps_below (below_then hB1 hB1.size hW))
  have ints : ∀ W, Below w1.heap.size w1 W → IntsAt W (.slice Aa a.length ca) a := fun W hW => ha.keep (keeps_below (below_then hB1 hB1.size hW))
  have envs : ∀ W, Below w1.heap.size w1 W → Env W := fun W hW => hE.below (below_then hB1 hB1.size hW) hE.size
  have fin : ∀ W, Below w1.heap.size w1 W → Below w.heap.size w W := fun W hW => below_then hB1 hB1.size hW
  have R0 := Below.refl w1.heap.size w1
  have CG := great_any _ N w1 (nets w1 R0) hb
  obtain ⟨a0, a1, a2⟩ := rows w1 R0
  rw [hg] at CG
  obtain ⟨hgl, hgs⟩ := great_no hg
  have hz : decide ((300 : Int) < (sw.length : Int)) = false := decide_eq_false (by omega)
  have hz2 : decide ((200 : Int) < (a.length : Int)) = false := decide_eq_false (by omega)
  clear h q1 hB1 hsw ha hg hl hal2
  go_enter Tryz.func4, Tryz.ntmps4
  go_wp2_with fail
  refine CG.mono ?_
  rintro e w2 ⟨rfl, hB2⟩
  obtain ⟨b0, b1, b2⟩ := rows w2 hB2
  have CM := MayR_any _ N w2 (nets w2 hB2) (by omega) (by omega)
  rw [hM] at CM
  clear a0 a1 a2 CG
  go_wp2_with fail
  refine CM.mono ?_
  rintro e w3 ⟨rfl, hB3⟩
  have hB13 := below_le hB2 (Nat.le_refl _) hB3
  clear b0 b1 b2 CM
  have CN := NormalR_any _ a w3 (ints w3 hB13)
  rw [hn] at CN
  have HH := hid (And.intro hM hn)
  clear hM hn
  go_wp2_with fail
  refine CN.mono ?_
  rintro e w4 ⟨rfl, hB4⟩
  have hB14 := below_le hB13 (Nat.le_refl _) hB4
  clear CN
  go_wp2_with fail
  refine (works_any w4 (envs w4 hB14)).mono ?_
  rintro e wk ⟨rfl, hBk⟩
  go_wp2_with fail
  go_ret
  exact ⟨rfl, fin wk (below_le hB14 (Nat.le_refl _) hBk)⟩
end Go.Proofs.YtnlobmepajakcaaGreatDoor
