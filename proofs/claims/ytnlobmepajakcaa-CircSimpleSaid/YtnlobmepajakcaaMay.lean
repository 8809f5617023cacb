/- What circ.May does; the condition: its gates have at most 2^62 literals. -/
import Derived.Test.YtnlobmepajakcaaPrefix
set_option linter.unusedVariables false
set_option linter.unusedSimpArgs false
namespace Go.Proofs.Ytnlobmepajakcaa
open Go.RowKit Go.Shelf

def noS : Nat → Bool := fun _ => false
def mayGates (S : Nat → Bool) : List PGate → Option (Nat → Bool)
  | [] => some S
  | g :: gs => if shapedB g.kind g.ins.length = false then none else if (g.ins.any fun l => !S (absN l)) = true then none else
      if addB S g.var = true then mayGates (upd S g.var.toNat true) gs else none
/-- The variables of a net that is valid. -/
def mayS (N : PNet) : Option (Nat → Bool) :=
  match prefFrom none 0 noS N.pre with
  | none => none
  | some S => if 200000 < litSum N.gates then none else mayGates S N.gates
def mayP (N : PNet) : Bool := match mayS N with
  | none => false
  | some S => S (absN N.out)

theorem strange77 (b t : Nat) (S : Nat → Bool) (l : Int) (w : World) (hs : SetAt w b t S) :
    Calls Try.prog 77 (#[] ++ #[.int .i64 l] ++ #[.pointer (some ⟨b, 0, none⟩)]) w fun e w' => e = .returned (.bool (!S (absN l))) ∧ ∃ n, w' = w.drewN n := by
  have C := has_any b t S l w hs
  generalize S (absN l) = r at C ⊢
  go_enter Try.func77, Try.ntmps77
  go_wp2_with (go_at_call 45; refine C.mono ?_; rintro e w' ⟨rfl, n, rfl⟩)
  go_ret
  exact ⟨rfl, n, rfl⟩

set_option maxHeartbeats 4000000 in
theorem May_any (v : Value) (N : PNet) (w : World) (h : NetAt w v N) (hl : litSum N.gates ≤ 4611686018427387904) :
    Calls Try.prog 36 #[v] w fun e w' => e = .returned (.bool (mayP N)) ∧ Below w.heap.size w w' := by
  obtain ⟨vp, vg, rfl, ho, hp, hgt⟩ := h
  obtain ⟨W1, hW1⟩ : ∃ W1, (w.alloc (.cells #[vp, vg, .int .i64 N.out] 25)).alloc (.cells Try.zeroCells86 86) = W1 := ⟨_, rfl⟩
  have hS1 : SetAt W1 (w.heap.size + 1) 86 noS := by
    rw [← hW1]
    have := set_new (w.alloc (.cells #[vp, vg, .int .i64 N.out] 25)) 86
    rwa [World.size_alloc] at this
  have hB1 : Below w.heap.size w W1 := by rw [← hW1]; exact ((Below.refl _ w).alloc (Nat.le_refl _) _).alloc (by simp) _
  have C1 := prefix_any (w.heap.size + 1) 86 noS vp N.pre W1 w hp hB1 (by omega) hS1
  have hlt1 : w.heap.size + 1 < W1.heap.size := hS1.lt
  have hbox1 : W1.cell? ⟨w.heap.size, 0, none⟩ = some vp ∧ W1.cell? ⟨w.heap.size, 1, none⟩ = some vg ∧ W1.cell? ⟨w.heap.size, 2, none⟩ = some (.int .i64 N.out) := by
    have e : W1.heap[w.heap.size]? = some (.cells #[vp, vg, .int .i64 N.out] 25 (0, 0)) := by
      rw [← hW1, Below.heap_alloc _ _ _ (by simp)]; exact heap_alloc_new w _
    exact ⟨by rw [cell_of_row _ _ _ _ _ _ e]; rfl, by rw [cell_of_row _ _ _ _ _ _ e]; rfl, by rw [cell_of_row _ _ _ _ _ _ e]; rfl⟩
  obtain ⟨hb0, hb1, hb2⟩ := hbox1
  cases hpr : prefFrom none 0 noS N.pre with
  | none =>
    rw [hpr] at C1
    have HP := hid hpr
    clear hpr
    go_enter Try.func36, Try.ntmps36
    go_wp2_with fail
    refine C1.mono ?_
    rintro e w2 ⟨rfl, hG, S', hS', -⟩
    go_wp2_with fail
    go_ret
    exact ⟨ret_bool (by unfold mayP mayS; rw [HP.out]), hB1.grown hG hB1.size (fun k e => by cases e; omega)⟩
  | some S =>
    rw [hpr] at C1
    have HP := hid hpr
    clear hpr
    go_enter Try.func36, Try.ntmps36
    go_wp2_with fail
    refine C1.mono ?_
    rintro e w2 ⟨rfl, hG, S', hS', hSS⟩
    obtain rfl := hSS S rfl
    have hb1' := hG.cell hb1 (by simp)
    have hb2' := hG.cell hb2 (by simp)
    have hB2 : Below w.heap.size w w2 := hB1.grown hG hB1.size (fun k e => by cases e; omega)
    obtain ⟨A, c, rfl, hlc, hcm⟩ := SlAt.form hgt
    have hlen : N.gates.length ≤ 9223372036854775807 := by omega
    have C2 := literals_any _ N.gates w2 (hgt.keep (keeps_below hB2)) hl
    have hlt2 := hS'.lt
    clear hW1 hb0 hb1 hb2 hS1 hSS C1
    go_wp2_with fail
    refine C2.mono ?_
    rintro e w3 ⟨rfl, hB3⟩
    have hS3 := hS'.below hB3
    have hb23 := (hB3.cell (p := ⟨w.heap.size, 2, none⟩) (by simp; omega)).trans hb2'
    have hb13 := (hB3.cell (p := ⟨w.heap.size, 1, none⟩) (by simp; omega)).trans hb1'
    have hB4 := below_then hB2 hB2.size hB3
    clear hb2' hb1' C2 hG hB1 hB2 hS'
    go_wp2_with fail
    · go_ret
      exact ⟨ret_bool (by unfold mayP mayS; rw [HP.out]; simp only; rw [if_pos (by omega)]), hB4⟩
    · have hm : ¬ 200000 < litSum N.gates := by omega
      have hR : mayS N = mayGates S' N.gates := by unfold mayS; rw [HP.out]; simp only; rw [if_neg hm]
      have HR := hid hR
      clear hR hm
      go_loopg [6, 21] N.gates.length (fun gg _ s21 wr => ∃ (k : Nat) (Sc : Nat → Bool), k ≤ N.gates.length ∧ N.gates.length - k ≤ gg ∧ s21 = .int .i64 k ∧ Below w.heap.size w wr ∧ SetAt wr (w.heap.size + 1) 86 Sc ∧
        wr.cell? ⟨w.heap.size, 2, none⟩ = some (.int .i64 N.out) ∧ Rem (mayS N) (mayGates Sc (N.gates.drop k)))
      case atStart => exact ⟨0, S', Nat.zero_le _, by omega, rfl, hB4, hS3, hb23, ⟨HR.out⟩⟩
      case round =>
        clear hS3 hb23 hb13 hB4 HR
        obtain ⟨k, Sc, hk, hg, rfl, hB, hS, hb2, HA⟩ := hrel
        by_cases hlt : k < N.gates.length
        · obtain ⟨x, hx, hmem, hd⟩ := nth hlt
          obtain ⟨b, off, vi, rfl, hc0, hc1, hc2, hi, -, -, -⟩ := (hgt.keep (keeps_below hB)).at_ k x hx
          obtain ⟨Ai, ci, rfl, hli, hci⟩ := SlAt.form hi
          have hltz : (k : Int) < (N.gates.length : Int) := by omega
          have HD := hid hd
          have hS4 := hS.alloc (.cells #[.int .i64 x.var, .int .u8 x.kind, .slice Ai x.ins.length ci] 70)
          have hi4 := hi.keep (keeps_alloc wr (.cells #[.int .i64 x.var, .int .u8 x.kind, .slice Ai x.ins.length ci] 70))
          have hB4 : Below w.heap.size w (wr.alloc (.cells #[.int .i64 x.var, .int .u8 x.kind, .slice Ai x.ins.length ci] 70)) := hB.alloc hB.size _
          have hb24 := keeps_alloc wr (.cells #[.int .i64 x.var, .int .u8 x.kind, .slice Ai x.ins.length ci] 70) _ _ hb2
          have hb64 : ∀ j v, #[Value.int .i64 x.var, .int .u8 x.kind, .slice Ai x.ins.length ci][j]? = some v → (wr.alloc (.cells #[.int .i64 x.var, .int .u8 x.kind, .slice Ai x.ins.length ci] 70)).cell? ⟨wr.heap.size, j, none⟩ = some v := fun j v e => by
            rw [cell_of_row _ _ _ _ _ _ (heap_alloc_new wr _)]; exact e
          have hz4 : (wr.alloc (.cells #[.int .i64 x.var, .int .u8 x.kind, .slice Ai x.ins.length ci] 70)).heap.size = wr.heap.size + 1 := World.size_alloc _ _
          have hzl := hB.size
          obtain ⟨w4, hw4⟩ : ∃ w4, wr.alloc (.cells #[.int .i64 x.var, .int .u8 x.kind, .slice Ai x.ins.length ci] 70) = w4 := ⟨_, rfl⟩
          rw [hw4] at hS4 hi4 hB4 hb24 hb64 hz4
          have hb640 := hb64 0 _ rfl
          have hb641 := hb64 1 _ rfl
          have hb642 := hb64 2 _ rfl
          have C := shaped_any x.var x.kind Ai x.ins.length ci w4 (by omega)
          have HZ := hid hz4
          clear hd hx hb64 hz4 hb2 hS hB hi
          cases hsh : shapedB x.kind x.ins.length with
          | false =>
            rw [hsh] at C
            have HS := hid hsh
            clear hsh
            go_wp2_with fail
            refine C.mono ?_
            rintro e w5 ⟨rfl, hB5⟩
            go_wp2_with fail
            go_ret
            exact ⟨ret_bool (by unfold mayP; rw [HA.out, HD.out, mayGates, if_pos HS.out]), below_then hB4 hB4.size hB5⟩
          | true =>
            rw [hsh] at C
            have HS := hid hsh
            clear hsh
            go_wp2_with fail
            refine C.mono ?_
            rintro e w5 ⟨rfl, hB5⟩
            have hlt4 := hS4.lt
            have hS5 := hS4.below hB5
            have hB6 := below_then hB4 hB4.size hB5
            have hb25 := keeps_below hB5 _ _ hb24
            have hi5 := hi4.keep (keeps_below hB5)
            have hb650 := keeps_below hB5 _ _ hb640
            have hb652 := keeps_below hB5 _ _ hb642
            have C2 := containsFunc_ints (fun l => !Sc (absN l)) 77 #[] #[.pointer (some ⟨w.heap.size + 1, 0, none⟩)] (enters_of Try.func77 (by kernel_rfl) rfl) _ x.ins w5
              (fun W => Below w5.heap.size w5 W) (Below.refl _ _) (fun W hW => hi5.keep (keeps_below hW))
              (fun l W _ hW => (strange77 (w.heap.size + 1) 86 Sc l W (hS5.below hW)).mono fun e W' ⟨he, n, hw⟩ => ⟨he, by rw [hw]; exact below_drewN hW n⟩)
            clear hS4 hi4 hB4 hb24 hb640 hb641 hb642 hB5 C hw4 hi5
            cases hany : x.ins.any (fun l => !Sc (absN l)) with
            | true =>
              rw [hany] at C2
              have HY := hid hany
              clear hany
              go_wp2_with fail
              refine C2.mono ?_
              rintro e w7 ⟨rfl, hB7⟩
              go_wp2_with fail
              go_ret
              exact ⟨ret_bool (by unfold mayP; rw [HA.out, HD.out, mayGates, if_neg (by rw [HS.out]; simp), if_pos HY.out]), below_then hB6 hB6.size hB7⟩
            | false =>
              rw [hany] at C2
              have HY := hid hany
              clear hany
              go_wp2_with fail
              refine C2.mono ?_
              rintro e w7 ⟨rfl, hB7⟩
              have hS7 := hS5.below hB7
              have hB8 := below_then hB6 hB6.size hB7
              have hb27 := keeps_below hB7 _ _ hb25
              have hb670 := keeps_below hB7 _ _ hb650
              have C3 := add_any (w.heap.size + 1) 86 Sc x.var w7 hS7
              clear hS5 hB6 hb25 hb650 hb652 hB7 C2
              cases hadd : addB Sc x.var with
              | false =>
                rw [hadd] at C3
                have HAD := hid hadd
                clear hadd
                go_wp2_with fail
                refine C3.mono ?_
                rintro e w9 ⟨rfl, -, hG9⟩
                go_wp2_with fail
                go_ret
                exact ⟨ret_bool (by unfold mayP; rw [HA.out, HD.out, mayGates, if_neg (by rw [HS.out]; simp), if_neg (by rw [HY.out]; simp), if_neg (by rw [HAD.out]; simp)]), hB8.grown hG9 hB8.size (fun q e => by cases e; omega)⟩
              | true =>
                rw [hadd] at C3
                have HAD := hid hadd
                clear hadd
                go_wp2_with fail
                refine C3.mono ?_
                rintro e w9 ⟨rfl, hS9, hG9⟩
                go_wp2_with fail
                go_roundg (N.gates.length - (k + 1))
                case measure => omega
                case rel =>
                  refine ⟨k + 1, _, by omega, by omega, by go_num, hB8.grown hG9 hB8.size (fun q e => by cases e; omega), hS9, hG9.cell hb27 (by simp), ⟨?_⟩⟩
                  rw [HA.out, HD.out, mayGates, if_neg (by rw [HS.out]; simp), if_neg (by rw [HY.out]; simp), if_pos HAD.out]
                  unfold addS
                  rw [if_pos HAD.out]
        · have hltz : ¬ (k : Int) < (N.gates.length : Int) := by omega
          have C := has_any (w.heap.size + 1) 86 Sc N.out wr hS
          have hR : mayP N = Sc (absN N.out) := by unfold mayP; rw [HA.out, List.drop_eq_nil_of_le (by omega)]; rfl
          generalize Sc (absN N.out) = r at C hR
          have HR := hid hR
          clear hR
          go_wp2_with fail
          refine C.mono ?_
          rintro e w5 ⟨rfl, n, rfl⟩
          go_wp2_with fail
          go_ret
          exact ⟨ret_bool HR.out.symm, below_drewN hB n⟩
end Go.Proofs.Ytnlobmepajakcaa
