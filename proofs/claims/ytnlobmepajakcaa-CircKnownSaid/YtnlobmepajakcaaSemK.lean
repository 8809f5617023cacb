/- What the law CircKnown's examples come to, in plain words; no condition. -/
import Derived.Test.YtnlobmepajakcaaWorks
import Derived.Test.YtnlobmepajakcaaSemO
set_option linter.unusedVariables false
set_option linter.unusedSimpArgs false
namespace Go.Proofs.Ytnlobmepajakcaa
open Go.RowKit Go.Shelf

/-- The one-gate net of the first table. -/
def knN (k : Int) (ins : List Int) : PNet := ⟨[⟨false, [2, 1]⟩], [⟨3, k, ins⟩], 3⟩
def knA : Nat → List Int
  | 0 => [-1, -2]
  | 1 => [1]
  | 2 => [2]
  | _ => [1, 2]
def knK : Nat → Int
  | 0 => 1 | 1 => 1 | 2 => 2 | 3 => 2 | 4 => 3 | 5 => 3 | 6 => 4 | _ => 4
def knI : Nat → List Int
  | 0 => [] | 1 => [1, -2] | 2 => [] | 3 => [1, -2] | 4 => [1, 2] | 5 => [1, 1] | 6 => [1, 2, -2] | _ => [-1, 2, 1]
def knS : Nat → Array UInt8
  | 0 => #[49, 49, 49, 49] | 1 => #[48, 49, 48, 48] | 2 => #[48, 48, 48, 48] | 3 => #[49, 49, 48, 49] | 4 => #[48, 49, 49, 48] | 5 => #[48, 48, 48, 48] | 6 => #[49, 48, 48, 49] | _ => #[48, 49, 49, 49]
theorem kn_val : ∀ j, j < 8 → ∀ i, i < 4 → evalP (knN (knK j) (knI j)) (knA i) = ((knS j)[i]? == some 49, 0) := by decide +kernel
def knG : List PGate := [⟨4, 2, [5]⟩, ⟨5, 2, [4, 1]⟩]
theorem kn_loop : (orderP [1] knG).2 = 50 := by decide +kernel
theorem kn_twice : (orderP [1, 1] []).2 = 2 := by decide +kernel
theorem kn_cof1 : (cofactorP exN [4]).2 = 6 := by decide +kernel
theorem kn_cof2 : (cofactorP exN [2, 1]).2 = 2 := by decide +kernel
theorem kn_comp1 : (composeP exN 4 exN).2 = 6 := by decide +kernel
theorem kn_comp2 : (composeP exN 3 exN).2 = 4 := by decide +kernel
theorem kn_zero : evalP ⟨[], [], 0⟩ [] = (false, 2) := by decide +kernel
theorem kn_sup : (supportP exN 0).2 = 6 := by decide +kernel
def knB : Nat → PNet
  | 0 => ⟨[], [], 1⟩
  | 1 => ⟨[⟨false, []⟩], [], 1⟩
  | 2 => ⟨[⟨false, [1]⟩, ⟨false, [2]⟩], [], 1⟩
  | 3 => ⟨[⟨false, [1, 1]⟩], [], 1⟩
  | 4 => ⟨[⟨false, [1]⟩], [⟨2, 1, [2]⟩], 2⟩
  | 5 => ⟨[⟨false, [1]⟩], [⟨2, 3, [1]⟩], 2⟩
  | _ => ⟨[⟨false, [65537]⟩], [], 1⟩
theorem kn_bad : ∀ j, j < 7 → mayP (knB j) = false := by decide +kernel
end Go.Proofs.Ytnlobmepajakcaa
