/- A set's end from a place on, and what slices.Index finds there; the condition: the place is at most 65,537. -/
import Derived.Test.YtnlobmepajakcaaName
set_option linter.unusedVariables false
set_option linter.unusedSimpArgs false
namespace Go.Proofs.Ytnlobmepajakcaa
open Go.RowKit Go.Shelf

theorem u86 : Try.prog.underlying 86 = some (.array 65537 4) := by kernel_rfl
theorem sz4 (w : World) : (sizeOf 4).run Try.prog w = .ok 1 w := by
  have h := info4
  obtain ⟨i, hi, hz⟩ := Option.map_eq_some_iff.1 h
  simp only [Prod.mk.injEq] at hz
  simp [sizeOf, typeInfo, Sem.run_bind, hi, go_sem, hz.2.1]
theorem run_sliceArr (b p : Nat) (hp : p ≤ 65537) (W : World) : (Instr.sliceAt 86 (.pointer (some ⟨b, 0, none⟩)) (some (.int .i64 (p : Int))) none none).run Try.prog W =
    .ok (.slice (some (if 65537 = p then ⟨b, 0, none⟩ else ⟨b, p, none⟩)) (65537 - p) (65537 - p)) W := by
  unfold Instr.sliceAt
  rw [Sem.run_bind, run_underlying u86 W]
  have h1 : ¬ ((p : Int) < 0) := by omega
  have h2 : ¬ (65537 < p) := by omega
  have h3 : ¬ (65537 : Int) < (p : Int) := by omega
  simp [Instr.sliceBounds, Instr.sliceBound, Instr.sureAddr, asInt, go_sem, sz4, Sem.run_bind, Result.andThen, h1, h2, h3, Addr.add]
  rw [if_pos hp]
  by_cases h0 : p = 0
  · subst h0; simp
  · simp [h0]
theorem index_zero (A : Option Addr) (w : World) : Calls Try.prog 62 #[.slice A 0 0, .bool false] w fun e w' => e = .returned (.int .i64 (-1)) ∧ w' = w := by
  go_enter Try.func62, Try.ntmps62
  go_wp2_with fail
  go_loopg [5, 8] 0 (fun gg _ s8 wr => s8 = .int .i64 0 ∧ wr = w)
  case atStart => exact ⟨rfl, rfl⟩
  case round =>
    obtain ⟨rfl, rfl⟩ := hrel
    go_wp2_with fail
    go_ret
    exact ⟨rfl, rfl⟩
theorem slice_free (b p : Nat) (U : Nat → Bool) (hp : p ≤ 65537) : ∃ A n, (∀ W, (Instr.sliceAt 86 (.pointer (some ⟨b, 0, none⟩)) (some (.int .i64 (p : Int))) none none).run Try.prog W = .ok (.slice A n n) W) ∧
    ∀ W, SetAt W b 86 U → Calls Try.prog 62 #[.slice A n n, .bool false] W fun e w' => e = .returned (.int .i64 (freeI U p)) ∧ w' = W := by
  by_cases h : 65537 = p
  · subst h
    refine ⟨some ⟨b, 0, none⟩, 0, fun W => by rw [run_sliceArr b 65537 hp W, if_pos rfl], fun W _ => ?_⟩
    have : freeI U 65537 = -1 := rfl
    rw [this]
    exact index_zero _ W
  · refine ⟨some ⟨b, p, none⟩, 65537 - p, fun W => by rw [run_sliceArr b p hp W, if_neg h], fun W hS => ?_⟩
    exact index_any b 86 p (65537 - p) (65537 - p) U W hS (by omega) (Nat.le_refl _) (by omega)
end Go.Proofs.Ytnlobmepajakcaa
