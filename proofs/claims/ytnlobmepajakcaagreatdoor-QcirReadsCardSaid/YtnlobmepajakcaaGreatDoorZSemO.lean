/- What Order gives, in plain words; no condition. -/
import Derived.Test.YtnlobmepajakcaaGreatDoorZPlain
import Derived.Test.YtnlobmepajakcaaGreatDoorZRef
set_option linter.unusedVariables false
set_option linter.unusedSimpArgs false
namespace Go.Proofs.YtnlobmepajakcaaGreatDoor
open Go.RowKit Go.Shelf

def readyG (S : Nat → Bool) (g : PGate) : Bool := !(g.ins.any fun l => !S (absN l))
/-- The first gate that is ready, and the others. -/
def pickG (S : Nat → Bool) : List PGate → Option (PGate × List PGate)
  | [] => none
  | g :: gs => if readyG S g = true then some (g, gs) else (pickG S gs).map fun r => (r.1, g :: r.2)
def ordGo : Nat → (Nat → Bool) → List PGate → List PGate → Option (List PGate)
  | 0, _, out, _ => some out
  | n + 1, S, out, left => match pickG S left with
    | none => none
    | some r => ordGo n (upd S r.1.var.toNat true) (out ++ [r.1]) r.2
def addIns : (Nat → Bool) → List Int → Option (Nat → Bool)
  | S, [] => some S
  | S, v :: vs => if addB S v = true then addIns (upd S v.toNat true) vs else none
def addGs : (Nat → Bool) → List PGate → Option (Nat → Bool)
  | S, [] => some S
  | S, g :: gs => if shapedB g.kind g.ins.length = false then none else if addB S g.var = true then addGs (upd S g.var.toNat true) gs else none
def strangeG (A : Nat → Bool) (gates : List PGate) : Bool := gates.any fun g => g.ins.any fun l => !A (absN l)
def orderP (ins : List Int) (gates : List PGate) : List PGate × Int :=
  match addIns noS ins with
  | none => ([], 2)
  | some S0 => match addGs S0 gates with
    | none => ([], 2)
    | some A => if strangeG A gates = true then ([], 2) else if 200000 < litSum gates then ([], 3) else
      match ordGo gates.length S0 [] gates with
      | none => ([], 50)
      | some out => (out, 0)

/-- The gates have their shapes, and their variables are new and differ. -/
structure GoodG (S : Nat → Bool) (gs : List PGate) : Prop where
  each : ∀ g ∈ gs, shapedB g.kind g.ins.length = true ∧ addB S g.var = true
  diff : gs.Pairwise fun x y => x.var ≠ y.var
theorem good_of_may : ∀ (gs : List PGate) {S S' : Nat → Bool}, mayGates S gs = some S' → GoodG S gs
  | [], S, S', h => ⟨fun g hg => absurd hg List.not_mem_nil, List.Pairwise.nil⟩
  | x :: gs, S, S', h => by
    obtain ⟨h1, h2, h3, h4⟩ := mayGates_cons h
    have ih := good_of_may gs h4
    have key : ∀ g ∈ gs, addB S g.var = true ∧ x.var ≠ g.var := fun g hg => by
      have := (ih.each g hg).2
      rw [addB_iff] at this
      obtain ⟨k1, k2, k3⟩ := this
      rw [addB_iff] at h3
      unfold upd at k3
      split at k3
      · cases k3
      · rename_i hne
        exact ⟨addB_iff.2 ⟨k1, k2, k3⟩, fun e => hne (by rw [e])⟩
    refine ⟨fun g hg => ?_, List.pairwise_cons.2 ⟨fun g hg => (key g hg).2, ih.diff⟩⟩
    rcases List.mem_cons.1 hg with rfl | hg
    · exact ⟨h1, h3⟩
    · exact ⟨(ih.each g hg).1, (key g hg).1⟩
end Go.Proofs.YtnlobmepajakcaaGreatDoor
