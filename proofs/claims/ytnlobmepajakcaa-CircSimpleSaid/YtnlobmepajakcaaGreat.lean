/- What the law's many and great do; the condition: each gate has at most 2^44 literals. -/
import Derived.Test.YtnlobmepajakcaaRefP
set_option linter.unusedVariables false
set_option linter.unusedSimpArgs false
namespace Go.Proofs.Ytnlobmepajakcaa
open Go.RowKit Go.Shelf

def manyP (gs : List PGate) : Bool := decide (300 < gs.length) || decide (1500 < litSum gs)
theorem litSum_take {gs : List PGate} {j : Nat} {g : PGate} (h : gs[j]? = some g) : litSum (gs.take (j + 1)) = litSum (gs.take j) + g.ins.length := by
  rw [take_snoc h, litSum_append]; simp [litSum]
theorem litSum_bnd {B : Nat} : ∀ {gs : List PGate}, (∀ g ∈ gs, g.ins.length ≤ B) → litSum gs ≤ gs.length * B
  | [], _ => Nat.zero_le _
  | g :: gs, h => by
    have h1 := litSum_bnd (gs := gs) (fun g hg => h g (.tail _ hg))
    have h2 := h g (.head _)
    simp only [litSum, List.length_cons, Nat.add_mul, Nat.one_mul]; omega
theorem many_any (v : Value) (gs : List PGate) (w : World) (h : GatesAt w v gs) (hb : ∀ g ∈ gs, g.ins.length ≤ 17592186044416) :
    Calls Try.prog 31 #[v] w fun e w' => e = .returned (.bool (manyP gs)) ∧ Below w.heap.size w w' := by
  obtain ⟨A, c, rfl, hlc, hcm⟩ := h.form
  by_cases hlong : 300 < gs.length
  · have hP : manyP gs = true := by unfold manyP; rw [decide_eq_true hlong]; rfl
    have hq : (300 : Int) < (gs.length : Int) := by omega
    rw [hP]
    clear hP hlong
    go_enter Try.func31, Try.ntmps31
    go_wp2_with fail
    go_loopg [3, 5, 8] gs.length (fun gg s3 _ s8 wr => ∃ (j : Nat) (z : Int), j ≤ gs.length ∧ gs.length - j ≤ gg ∧ s8 = .int .i64 j ∧ s3 = .int .i64 z ∧ Below w.heap.size w wr)
    case atStart => exact ⟨0, 0, Nat.zero_le _, by omega, rfl, rfl, Below.refl _ _⟩
    case round =>
      obtain ⟨j, z, hj, hg, rfl, rfl, hB⟩ := hrel
      by_cases hlt : j < gs.length
      · obtain ⟨g, hgx, hgm, -⟩ := nth hlt
        obtain ⟨b, off, vi, rfl, hc0, hc1, hc2, hi, -⟩ := (h.keep (keeps_below hB)).at_ j g hgx
        obtain ⟨Ai, ci, rfl, hli, hci⟩ := hi.form
        have hltz : (j : Int) < (gs.length : Int) := by omega
        obtain ⟨wN, hwN, hcN, -, hzN, hBN, hrN⟩ := new_block wr #[.int .i64 g.var, .int .u8 g.kind, .slice Ai g.ins.length ci] 70
        have x2 : wN.cell? ⟨wr.heap.size, 2, none⟩ = some (.slice Ai g.ins.length ci) := hcN 2 _ rfl
        clear hgx hcN hq
        go_wp2_with fail
        go_roundg (gs.length - (j + 1))
        case measure => omega
        case rel => exact ⟨j + 1, _, by omega, by omega, by go_num, rfl, below_then hB hB.size hBN⟩
      · have hltz : ¬ (j : Int) < (gs.length : Int) := by omega
        go_wp2_with fail
        go_ret
        exact ⟨rfl, hB⟩
  · have hq : ¬ (300 : Int) < (gs.length : Int) := by omega
    have hP : manyP gs = decide (1500 < litSum gs) := by unfold manyP; rw [decide_eq_false hlong]; rfl
    rw [hP]
    have HL := hid hlong
    clear hP hlong
    go_enter Try.func31, Try.ntmps31
    go_wp2_with fail
    go_loopg [3, 5, 8] gs.length (fun gg s3 _ s8 wr => ∃ (j : Nat), j ≤ gs.length ∧ gs.length - j ≤ gg ∧ s8 = .int .i64 j ∧ s3 = .int .i64 (litSum (gs.take j) : Int) ∧ Below w.heap.size w wr)
    case atStart => exact ⟨0, Nat.zero_le _, by omega, rfl, rfl, Below.refl _ _⟩
    case round =>
      obtain ⟨j, hj, hg, rfl, rfl, hB⟩ := hrel
      by_cases hlt : j < gs.length
      · obtain ⟨g, hgx, hgm, -⟩ := nth hlt
        obtain ⟨b, off, vi, rfl, hc0, hc1, hc2, hi, -⟩ := (h.keep (keeps_below hB)).at_ j g hgx
        obtain ⟨Ai, ci, rfl, hli, hci⟩ := hi.form
        have hltz : (j : Int) < (gs.length : Int) := by omega
        obtain ⟨wN, hwN, hcN, -, hzN, hBN, hrN⟩ := new_block wr #[.int .i64 g.var, .int .u8 g.kind, .slice Ai g.ins.length ci] 70
        have x2 : wN.cell? ⟨wr.heap.size, 2, none⟩ = some (.slice Ai g.ins.length ci) := hcN 2 _ rfl
        have htk := litSum_take hgx
        have hbd := litSum_bnd (B := 17592186044416) (gs := gs.take (j + 1)) (fun g hg => hb g (List.mem_of_mem_take hg))
        have hlt1 : (gs.take (j + 1)).length ≤ 300 := by have := HL.out; simp; omega
        have hsm : litSum (gs.take j) + g.ins.length ≤ 5277655813324800 := by rw [← htk]; exact Nat.le_trans hbd (Nat.mul_le_mul_right _ hlt1)
        obtain ⟨s, hs⟩ : ∃ s, litSum (gs.take j) = s := ⟨_, rfl⟩
        rw [hs] at htk hsm ⊢
        have hw1 : IntKind.i64.wrap ((s : Int) + (g.ins.length : Int)) = ((s + g.ins.length : Nat) : Int) := by rw [IntWalk.i64_in _ (by omega)]; omega
        have HTK := hid htk
        clear hgx hcN hq htk hs hbd hlt1 hsm
        go_wp2_with fail
        go_roundg (gs.length - (j + 1))
        case measure => omega
        case rel => exact ⟨j + 1, by omega, by omega, by go_num, by rw [HTK.out]; rfl, below_then hB hB.size hBN⟩
      · have hltz : ¬ (j : Int) < (gs.length : Int) := by omega
        have e : gs.take j = gs := List.take_of_length_le (by omega)
        rw [e]
        clear e
        by_cases h15 : 1500 < litSum gs
        · have hz : (1500 : Int) < (litSum gs : Int) := by omega
          have HD15 := hid (decide_eq_true h15)
          clear h15
          go_wp2_with fail
          go_ret
          exact ⟨ret_bool (by rw [HD15.out]), hB⟩
        · have hz : ¬ (1500 : Int) < (litSum gs : Int) := by omega
          have HD15 := hid (decide_eq_false h15)
          clear h15
          go_wp2_with fail
          go_ret
          exact ⟨ret_bool (by rw [HD15.out]; exact decide_eq_false (by omega)), hB⟩
/-- The nets that lie in a block, one behind the other. -/
def NetsRow (w : World) (g : Nat) (ns : List PNet) : Prop := ∀ j N, ns[j]? = some N → ∃ vp vg, w.cell? ⟨g, j * 3, none⟩ = some vp ∧ w.cell? ⟨g, j * 3 + 1, none⟩ = some vg ∧ w.cell? ⟨g, j * 3 + 2, none⟩ = some (.int .i64 N.out) ∧ BlocksAt w vp N.pre ∧ GatesAt w vg N.gates
theorem great_any (g n : Nat) (ns : List PNet) (w : World) (h : NetsRow w g ns) (hn : ns.length = n) (hn2 : n ≤ 1000) (hb : ∀ N ∈ ns, ∀ g ∈ N.gates, g.ins.length ≤ 17592186044416) :
    Calls Try.prog 11 #[.slice (some ⟨g, 0, none⟩) n n] w fun e w' => e = .returned (.bool (ns.any fun N => manyP N.gates)) ∧ Below w.heap.size w w' := by
  go_enter Try.func11, Try.ntmps11
  go_wp2_with fail
  go_loopg [4, 7] n (fun gg _ s7 wr => ∃ (j : Nat), j ≤ n ∧ n - j ≤ gg ∧ s7 = .int .i64 j ∧ Below w.heap.size w wr ∧ Rem (ns.any fun N => manyP N.gates) ((ns.drop j).any fun N => manyP N.gates))
  case atStart => exact ⟨0, Nat.zero_le _, by omega, rfl, Below.refl _ _, ⟨rfl⟩⟩
  case round =>
    obtain ⟨j, hj, hg, rfl, hB, HA⟩ := hrel
    by_cases hlt : j < n
    · obtain ⟨N, hx, hm, hd⟩ := nth (show j < ns.length by omega)
      obtain ⟨vp, vg, c0, c1, c2, hp, hgt⟩ := h j N hx
      obtain ⟨Ap, cp, rfl, -, -⟩ := hp.form
      obtain ⟨Ag, cg, rfl, -, -⟩ := hgt.form
      have k0 := keeps_below hB _ _ c0
      have k1 := keeps_below hB _ _ c1
      have k2 := keeps_below hB _ _ c2
      have hltz : (j : Int) < (n : Int) := by omega
      have HD := hid hd
      obtain ⟨wN, hwN, hcN, -, hzN, hBN, hrN⟩ := new_block wr #[.slice Ap N.pre.length cp, .slice Ag N.gates.length cg, .int .i64 N.out] 25
      have x1 : wN.cell? ⟨wr.heap.size, 1, none⟩ = some (.slice Ag N.gates.length cg) := hcN 1 _ rfl
      have hB2 := below_then hB hB.size hBN
      have CM := many_any _ N.gates wN (hgt.keep (keeps_below hB2)) (hb N hm)
      clear hx hd hcN c0 c1 c2
      cases hmp : manyP N.gates with
      | true =>
        rw [hmp] at CM
        have HMP := hid hmp
        clear hmp
        go_wp2_with (go_at_call 31; refine CM.mono ?_; rintro e w3 ⟨rfl, hB3⟩)
        go_ret
        exact ⟨ret_bool (by rw [HA.out, HD.out, List.any_cons, HMP.out]; rfl), below_then hB2 hB2.size hB3⟩
      | false =>
        rw [hmp] at CM
        have HMP := hid hmp
        clear hmp
        go_wp2_with (go_at_call 31; refine CM.mono ?_; rintro e w3 ⟨rfl, hB3⟩)
        go_roundg (n - (j + 1))
        case measure => omega
        case rel => exact ⟨j + 1, by omega, by omega, by go_num, below_then hB2 hB2.size hB3, ⟨by rw [HA.out, HD.out, List.any_cons, HMP.out]; rfl⟩⟩
    · have hltz : ¬ (j : Int) < (n : Int) := by omega
      have hR : (ns.any fun N => manyP N.gates) = false := by rw [HA.out, List.drop_eq_nil_of_le (by omega)]; rfl
      have HR := hid hR
      clear hR
      go_wp2_with fail
      go_ret
      exact ⟨ret_bool (by rw [HR.out]), hB⟩
end Go.Proofs.Ytnlobmepajakcaa
