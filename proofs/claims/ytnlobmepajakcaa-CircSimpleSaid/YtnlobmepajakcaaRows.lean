/-
  No cell of these rows narrows 'for every input' (looked for: loops, veiled, ifaces, maps, wideKeys, modest, calm, conditions, laid).
  DERIVED. THE GIVEN ROWS OF THIS SEAT. 8 by the template 'for every input the law returns true; each argument reads behind the call as it read before'; 0 by the template 'total and deterministic' (their statements: YtnlobmepajakcaaTotals.lean).
  GIVEN WITH THE SEED: the statements are not yours to turn. If you find one false, say at which input.
  Laid BY PROGRAM, IN A SANDBOX (cutbox-rows.mjs): the forced cells as the released guide's own fill.sh prints them over the translation 06ed42ad8ee34f93… (all of the seat's roots in one cut). By AI agents, Wed Nov 11 2026. No macro, syntax, notation, axiom, sorry.
-/
import Derived.Test.YtnlobmepajakcaaChecked
import GoSem.Claim
import GoSem.ClaimJoined
import GoSem.ClaimMapViews
import Derived.JoinedTies
import Derived.KernelRfl
namespace Go.Proofs.Ytnlobmepajakcaa
/- THE CELL 'sum', in the pinned program and in every row, IS THE sha256 OF THE DUMP (.gsa) THAT YtnlobmepajakcaaProg.lean LOADS. Nothing in Lean hashes anything: it is a label: what it is worth is what the hold of that sum in a sandbox is worth. -/
noncomputable def Try.pinned : Pinned := { name := "ytnlobmepajakcaa", sum := "06ed42ad8ee34f93ef9f6ca80c442e1ccdec8bdfba3a700e623cbcdfdbd315c0", checked := Try.checked }
namespace Rows
def none {H : Type} : Left H := { results := [], args := [] }

/-- 'skolemlaw05.CircSimple': WHATEVER THE INPUT: true; the input reads as it did. -/
def circSimpleSpec : ChangeSpec := { name := "circSimple", fn := fun _ => fun
  | [d1, d2] => { results := [.lit (.bool true)], args := [d1, d2] }
  | _ => none }
def circSimpleRow : OpenClaim := { program := "ytnlobmepajakcaa", sum := "06ed42ad8ee34f93ef9f6ca80c442e1ccdec8bdfba3a700e623cbcdfdbd315c0", func := "skolem/skolemlaw05.CircSimple", spec := "circSimple", unfollowed := true, recurses := true, apart := false }
def CircSimpleSaid : Prop := circSimpleRow.holds Try.pinned (OpenSpec.ofChange circSimpleSpec)

/-- ITS FALSE NEIGHBOUR: 'it returns false'. Refute it at one input. -/
def circSimpleWrong : ChangeSpec := { name := "circSimple", fn := fun _ => fun
  | [d1, d2] => { results := [.lit (.bool false)], args := [d1, d2] }
  | _ => none }
def CircSimpleWrongFalsely : Prop := circSimpleRow.holds Try.pinned (OpenSpec.ofChange circSimpleWrong)

/-- 'skolemlaw05.CircMeans': WHATEVER THE INPUT: true; the input reads as it did. -/
def circMeansSpec : ChangeSpec := { name := "circMeans", fn := fun _ => fun
  | [d1, d2, d3, d4, d5] => { results := [.lit (.bool true)], args := [d1, d2, d3, d4, d5] }
  | _ => none }
def circMeansRow : OpenClaim := { program := "ytnlobmepajakcaa", sum := "06ed42ad8ee34f93ef9f6ca80c442e1ccdec8bdfba3a700e623cbcdfdbd315c0", func := "skolem/skolemlaw05.CircMeans", spec := "circMeans", unfollowed := true, recurses := true, apart := false }
def CircMeansSaid : Prop := circMeansRow.holds Try.pinned (OpenSpec.ofChange circMeansSpec)

/-- ITS FALSE NEIGHBOUR: 'it returns false'. Refute it at one input. -/
def circMeansWrong : ChangeSpec := { name := "circMeans", fn := fun _ => fun
  | [d1, d2, d3, d4, d5] => { results := [.lit (.bool false)], args := [d1, d2, d3, d4, d5] }
  | _ => none }
def CircMeansWrongFalsely : Prop := circMeansRow.holds Try.pinned (OpenSpec.ofChange circMeansWrong)

/-- 'skolemlaw05.CircValues': WHATEVER THE INPUT: true; the input reads as it did. -/
def circValuesSpec : ChangeSpec := { name := "circValues", fn := fun _ => fun
  | [d1, d2] => { results := [.lit (.bool true)], args := [d1, d2] }
  | _ => none }
def circValuesRow : OpenClaim := { program := "ytnlobmepajakcaa", sum := "06ed42ad8ee34f93ef9f6ca80c442e1ccdec8bdfba3a700e623cbcdfdbd315c0", func := "skolem/skolemlaw05.CircValues", spec := "circValues", unfollowed := true, recurses := true, apart := false }
def CircValuesSaid : Prop := circValuesRow.holds Try.pinned (OpenSpec.ofChange circValuesSpec)

/-- ITS FALSE NEIGHBOUR: 'it returns false'. Refute it at one input. -/
def circValuesWrong : ChangeSpec := { name := "circValues", fn := fun _ => fun
  | [d1, d2] => { results := [.lit (.bool false)], args := [d1, d2] }
  | _ => none }
def CircValuesWrongFalsely : Prop := circValuesRow.holds Try.pinned (OpenSpec.ofChange circValuesWrong)

/-- 'skolemlaw05.CircDepends': WHATEVER THE INPUT: true; the input reads as it did. -/
def circDependsSpec : ChangeSpec := { name := "circDepends", fn := fun _ => fun
  | [d1, d2, d3, d4] => { results := [.lit (.bool true)], args := [d1, d2, d3, d4] }
  | _ => none }
def circDependsRow : OpenClaim := { program := "ytnlobmepajakcaa", sum := "06ed42ad8ee34f93ef9f6ca80c442e1ccdec8bdfba3a700e623cbcdfdbd315c0", func := "skolem/skolemlaw05.CircDepends", spec := "circDepends", unfollowed := true, recurses := true, apart := false }
def CircDependsSaid : Prop := circDependsRow.holds Try.pinned (OpenSpec.ofChange circDependsSpec)

/-- ITS FALSE NEIGHBOUR: 'it returns false'. Refute it at one input. -/
def circDependsWrong : ChangeSpec := { name := "circDepends", fn := fun _ => fun
  | [d1, d2, d3, d4] => { results := [.lit (.bool false)], args := [d1, d2, d3, d4] }
  | _ => none }
def CircDependsWrongFalsely : Prop := circDependsRow.holds Try.pinned (OpenSpec.ofChange circDependsWrong)

/-- 'skolemlaw05.CircOrders': WHATEVER THE INPUT: true; the input reads as it did. -/
def circOrdersSpec : ChangeSpec := { name := "circOrders", fn := fun _ => fun
  | [d1, d2] => { results := [.lit (.bool true)], args := [d1, d2] }
  | _ => none }
def circOrdersRow : OpenClaim := { program := "ytnlobmepajakcaa", sum := "06ed42ad8ee34f93ef9f6ca80c442e1ccdec8bdfba3a700e623cbcdfdbd315c0", func := "skolem/skolemlaw05.CircOrders", spec := "circOrders", unfollowed := true, recurses := true, apart := false }
def CircOrdersSaid : Prop := circOrdersRow.holds Try.pinned (OpenSpec.ofChange circOrdersSpec)

/-- ITS FALSE NEIGHBOUR: 'it returns false'. Refute it at one input. -/
def circOrdersWrong : ChangeSpec := { name := "circOrders", fn := fun _ => fun
  | [d1, d2] => { results := [.lit (.bool false)], args := [d1, d2] }
  | _ => none }
def CircOrdersWrongFalsely : Prop := circOrdersRow.holds Try.pinned (OpenSpec.ofChange circOrdersWrong)

/-- 'skolemlaw05.CircAgain': WHATEVER THE INPUT: true; the input reads as it did. -/
def circAgainSpec : ChangeSpec := { name := "circAgain", fn := fun _ => fun
  | [d1, d2, d3] => { results := [.lit (.bool true)], args := [d1, d2, d3] }
  | _ => none }
def circAgainRow : OpenClaim := { program := "ytnlobmepajakcaa", sum := "06ed42ad8ee34f93ef9f6ca80c442e1ccdec8bdfba3a700e623cbcdfdbd315c0", func := "skolem/skolemlaw05.CircAgain", spec := "circAgain", unfollowed := true, recurses := true, apart := false }
def CircAgainSaid : Prop := circAgainRow.holds Try.pinned (OpenSpec.ofChange circAgainSpec)

/-- ITS FALSE NEIGHBOUR: 'it returns false'. Refute it at one input. -/
def circAgainWrong : ChangeSpec := { name := "circAgain", fn := fun _ => fun
  | [d1, d2, d3] => { results := [.lit (.bool false)], args := [d1, d2, d3] }
  | _ => none }
def CircAgainWrongFalsely : Prop := circAgainRow.holds Try.pinned (OpenSpec.ofChange circAgainWrong)

/-- 'skolemlaw05.CircMays': WHATEVER THE INPUT: true; the input reads as it did. -/
def circMaysSpec : ChangeSpec := { name := "circMays", fn := fun _ => fun
  | [d1, d2, d3] => { results := [.lit (.bool true)], args := [d1, d2, d3] }
  | _ => none }
def circMaysRow : OpenClaim := { program := "ytnlobmepajakcaa", sum := "06ed42ad8ee34f93ef9f6ca80c442e1ccdec8bdfba3a700e623cbcdfdbd315c0", func := "skolem/skolemlaw05.CircMays", spec := "circMays", unfollowed := true, recurses := true, apart := false }
def CircMaysSaid : Prop := circMaysRow.holds Try.pinned (OpenSpec.ofChange circMaysSpec)

/-- ITS FALSE NEIGHBOUR: 'it returns false'. Refute it at one input. -/
def circMaysWrong : ChangeSpec := { name := "circMays", fn := fun _ => fun
  | [d1, d2, d3] => { results := [.lit (.bool false)], args := [d1, d2, d3] }
  | _ => none }
def CircMaysWrongFalsely : Prop := circMaysRow.holds Try.pinned (OpenSpec.ofChange circMaysWrong)

/-- 'skolemlaw05.CircKnown': WHATEVER THE INPUT: true; the input reads as it did. -/
def circKnownSpec : ChangeSpec := { name := "circKnown", fn := fun _ => fun
  | [] => { results := [.lit (.bool true)], args := [] }
  | _ => none }
def circKnownRow : OpenClaim := { program := "ytnlobmepajakcaa", sum := "06ed42ad8ee34f93ef9f6ca80c442e1ccdec8bdfba3a700e623cbcdfdbd315c0", func := "skolem/skolemlaw05.CircKnown", spec := "circKnown", unfollowed := true, recurses := true, apart := false }
def CircKnownSaid : Prop := circKnownRow.holds Try.pinned (OpenSpec.ofChange circKnownSpec)

/-- ITS FALSE NEIGHBOUR: 'it returns false'. Refute it at one input. -/
def circKnownWrong : ChangeSpec := { name := "circKnown", fn := fun _ => fun
  | [] => { results := [.lit (.bool false)], args := [] }
  | _ => none }
def CircKnownWrongFalsely : Prop := circKnownRow.holds Try.pinned (OpenSpec.ofChange circKnownWrong)

/- THE SECOND FORM. 'bulk': how many values and letters a reading holds, each counted each time it is reached (what is shared counts as often as it is met; a slice's spare places count too). A statement '..UptoSaid' is the law's where the arguments, and the package variables that the reading takes, are together of bulk at most 1048576: NARROWER than '..Said'. Prove '..Said' where nothing that the law and all that it calls make is longer than what came in: it says more and counts as full. Else prove '..UptoSaid'. A law counts once. -/
mutual
def uptoBulk {H : Type} : DataW H → Nat
  | .lit (.string bytes) => bytes.length + 1
  | .lit _ => 1
  | .nil => 1
  | .ptr d => uptoBulk d + 1
  | .slice elems spare => uptoBulkAll elems + uptoBulkAll spare + 1
  | .agg parts => uptoBulkAll parts + 1
  | .iface _ d => uptoBulk d + 1
  | .map entries => uptoBulkEntries entries + 1
  | .held _ => 1
def uptoBulkAll {H : Type} : List (DataW H) → Nat
  | [] => 0
  | d :: r => uptoBulk d + uptoBulkAll r
def uptoBulkEntries {H : Type} : List (Lit × DataW H) → Nat
  | [] => 0
  | x :: r => uptoBulkEntry x + uptoBulkEntries r
def uptoBulkEntry {H : Type} : Lit × DataW H → Nat
  | (.string bytes, d) => bytes.length + uptoBulk d + 1
  | (_, d) => uptoBulk d + 1
 end
def uptoSmall : (H : Type) → List (DataW H) → Bool := fun _ ds => decide (uptoBulkAll ds ≤ 1048576)
def OpenSpec.upto (s : _root_.Go.ChangeSpec) : _root_.Go.OpenSpec := { _root_.Go.OpenSpec.ofChange s with cond := some uptoSmall }

/-- 'skolemlaw05.CircSimple', WHERE WHAT IT READS IS OF BULK AT MOST 1048576: true; the input reads as it did. -/
def circSimpleUptoRow : OpenClaim := { program := "ytnlobmepajakcaa", sum := "06ed42ad8ee34f93ef9f6ca80c442e1ccdec8bdfba3a700e623cbcdfdbd315c0", func := "skolem/skolemlaw05.CircSimple", spec := "circSimple", unfollowed := true, recurses := true, apart := false, narrowed := true }
def CircSimpleUptoSaid : Prop := circSimpleUptoRow.holds Try.pinned (OpenSpec.upto circSimpleSpec)

/-- 'skolemlaw05.CircMeans', WHERE WHAT IT READS IS OF BULK AT MOST 1048576: true; the input reads as it did. -/
def circMeansUptoRow : OpenClaim := { program := "ytnlobmepajakcaa", sum := "06ed42ad8ee34f93ef9f6ca80c442e1ccdec8bdfba3a700e623cbcdfdbd315c0", func := "skolem/skolemlaw05.CircMeans", spec := "circMeans", unfollowed := true, recurses := true, apart := false, narrowed := true }
def CircMeansUptoSaid : Prop := circMeansUptoRow.holds Try.pinned (OpenSpec.upto circMeansSpec)

/-- 'skolemlaw05.CircValues', WHERE WHAT IT READS IS OF BULK AT MOST 1048576: true; the input reads as it did. -/
def circValuesUptoRow : OpenClaim := { program := "ytnlobmepajakcaa", sum := "06ed42ad8ee34f93ef9f6ca80c442e1ccdec8bdfba3a700e623cbcdfdbd315c0", func := "skolem/skolemlaw05.CircValues", spec := "circValues", unfollowed := true, recurses := true, apart := false, narrowed := true }
def CircValuesUptoSaid : Prop := circValuesUptoRow.holds Try.pinned (OpenSpec.upto circValuesSpec)

/-- 'skolemlaw05.CircDepends', WHERE WHAT IT READS IS OF BULK AT MOST 1048576: true; the input reads as it did. -/
def circDependsUptoRow : OpenClaim := { program := "ytnlobmepajakcaa", sum := "06ed42ad8ee34f93ef9f6ca80c442e1ccdec8bdfba3a700e623cbcdfdbd315c0", func := "skolem/skolemlaw05.CircDepends", spec := "circDepends", unfollowed := true, recurses := true, apart := false, narrowed := true }
def CircDependsUptoSaid : Prop := circDependsUptoRow.holds Try.pinned (OpenSpec.upto circDependsSpec)

/-- 'skolemlaw05.CircOrders', WHERE WHAT IT READS IS OF BULK AT MOST 1048576: true; the input reads as it did. -/
def circOrdersUptoRow : OpenClaim := { program := "ytnlobmepajakcaa", sum := "06ed42ad8ee34f93ef9f6ca80c442e1ccdec8bdfba3a700e623cbcdfdbd315c0", func := "skolem/skolemlaw05.CircOrders", spec := "circOrders", unfollowed := true, recurses := true, apart := false, narrowed := true }
def CircOrdersUptoSaid : Prop := circOrdersUptoRow.holds Try.pinned (OpenSpec.upto circOrdersSpec)

/-- 'skolemlaw05.CircAgain', WHERE WHAT IT READS IS OF BULK AT MOST 1048576: true; the input reads as it did. -/
def circAgainUptoRow : OpenClaim := { program := "ytnlobmepajakcaa", sum := "06ed42ad8ee34f93ef9f6ca80c442e1ccdec8bdfba3a700e623cbcdfdbd315c0", func := "skolem/skolemlaw05.CircAgain", spec := "circAgain", unfollowed := true, recurses := true, apart := false, narrowed := true }
def CircAgainUptoSaid : Prop := circAgainUptoRow.holds Try.pinned (OpenSpec.upto circAgainSpec)

/-- 'skolemlaw05.CircMays', WHERE WHAT IT READS IS OF BULK AT MOST 1048576: true; the input reads as it did. -/
def circMaysUptoRow : OpenClaim := { program := "ytnlobmepajakcaa", sum := "06ed42ad8ee34f93ef9f6ca80c442e1ccdec8bdfba3a700e623cbcdfdbd315c0", func := "skolem/skolemlaw05.CircMays", spec := "circMays", unfollowed := true, recurses := true, apart := false, narrowed := true }
def CircMaysUptoSaid : Prop := circMaysUptoRow.holds Try.pinned (OpenSpec.upto circMaysSpec)

/-- 'skolemlaw05.CircKnown', WHERE WHAT IT READS IS OF BULK AT MOST 1048576: true; the input reads as it did. -/
def circKnownUptoRow : OpenClaim := { program := "ytnlobmepajakcaa", sum := "06ed42ad8ee34f93ef9f6ca80c442e1ccdec8bdfba3a700e623cbcdfdbd315c0", func := "skolem/skolemlaw05.CircKnown", spec := "circKnown", unfollowed := true, recurses := true, apart := false, narrowed := true }
def CircKnownUptoSaid : Prop := circKnownUptoRow.holds Try.pinned (OpenSpec.upto circKnownSpec)

end Rows
end Go.Proofs.Ytnlobmepajakcaa
