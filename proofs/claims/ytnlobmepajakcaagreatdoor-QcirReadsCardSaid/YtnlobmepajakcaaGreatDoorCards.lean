/-
  DERIVED. GIVEN WITH THE SEED: THE CARDS: each row of YtnlobmepajakcaaGreatDoorRows.lean that lists a variable, with what it lists TIED to the program's text (the seventh form; the later family's looks); each row that meets fmt, with fmt's text TOLD by the authors' own Lean function (tested against real Go, not proved from fmt's source: count such statements apart). THE CARD IS WHAT COUNTS. Prove the row's statement (the work); the ties are given (YtnlobmepajakcaaGreatDoorTie.lean); close each card by the builder's one call (the guide's Derived/Test/ToyasCard.lean, 'card_holds'). Laid BY PROGRAM, IN A SANDBOX (cutbox-door.mjs). By AI agents, Wed Nov 11 2026. No macro, syntax, notation, axiom, sorry.
-/
import Derived.Test.YtnlobmepajakcaaGreatDoorRows
import GoSem.ClaimSeven
namespace Go.Proofs.YtnlobmepajakcaaGreatDoor
namespace Rows

/-- THE TIED CARD OF 'skolemlaw08.QcirSpaces'. -/
def qcirSpacesCard : Claim7 := { stood := { row := qcirSpacesRow, standIns := [], harness := (true, "5d4d874353d535549195872a374e0a1a476df9e355fd7eca9e312ef99974863b"), looks := true }, kinds := [], alts := [], laidByText := true, laidKinds := [.data, .data, .data, .data, .sentinel, .sentinel, .widerDeep, .pinned], laidTests := true, laidLooks := .later }
def QcirSpacesCardSaid : Prop := Claim7.holds Tryz.pinned (.plain (OpenSpec.ofChange qcirSpacesSpec)) qcirSpacesCard

/-- THE TIED CARD OF 'skolemlaw08.QcirShuffles'. -/
def qcirShufflesCard : Claim7 := { stood := { row := qcirShufflesRow, standIns := [], harness := (true, "5d4d874353d535549195872a374e0a1a476df9e355fd7eca9e312ef99974863b"), looks := true }, kinds := [], alts := [], laidByText := true, laidKinds := [.data, .data, .data, .data, .sentinel, .sentinel, .widerDeep, .pinned], laidTests := true, laidLooks := .later }
def QcirShufflesCardSaid : Prop := Claim7.holds Tryz.pinned (.plain (OpenSpec.ofChange qcirShufflesSpec)) qcirShufflesCard

/-- THE TIED CARD OF 'skolemlaw08.QcirPrints'. -/
def qcirPrintsCard : Claim7 := { stood := { row := qcirPrintsRow, standIns := [], harness := (true, "5d4d874353d535549195872a374e0a1a476df9e355fd7eca9e312ef99974863b"), looks := true }, kinds := [], alts := [], laidByText := true, laidKinds := [.data, .data, .data, .data, .sentinel, .sentinel, .widerDeep, .pinned], laidTests := true, laidLooks := .later }
def QcirPrintsCardSaid : Prop := Claim7.holds Tryz.pinned (.plain (OpenSpec.ofChange qcirPrintsSpec)) qcirPrintsCard

/-- THE TIED CARD OF 'skolemlaw08.QcirReads'. -/
def qcirReadsCard : Claim7 := { stood := { row := qcirReadsRow, standIns := [], harness := (true, "5d4d874353d535549195872a374e0a1a476df9e355fd7eca9e312ef99974863b"), looks := true }, kinds := [], alts := [], laidByText := true, laidKinds := [.data, .data, .data, .data, .sentinel, .sentinel, .widerDeep, .pinned], laidTests := true, laidLooks := .later }
def QcirReadsCardSaid : Prop := Claim7.holds Tryz.pinned (.plain (OpenSpec.ofChange qcirReadsSpec)) qcirReadsCard

/-- THE TIED CARD OF 'skolemlaw08.QcirBack'. -/
def qcirBackCard : Claim7 := { stood := { row := qcirBackRow, standIns := [], harness := (true, "5d4d874353d535549195872a374e0a1a476df9e355fd7eca9e312ef99974863b"), looks := true }, kinds := [], alts := [], laidByText := true, laidKinds := [.data, .data, .data, .data, .sentinel, .sentinel, .widerDeep, .pinned], laidTests := true, laidLooks := .later }
def QcirBackCardSaid : Prop := Claim7.holds Tryz.pinned (.plain (OpenSpec.ofChange qcirBackSpec)) qcirBackCard

/-- THE TIED CARD OF 'skolemlaw08.QcirAgain'. -/
def qcirAgainCard : Claim7 := { stood := { row := qcirAgainRow, standIns := [], harness := (true, "5d4d874353d535549195872a374e0a1a476df9e355fd7eca9e312ef99974863b"), looks := true }, kinds := [], alts := [], laidByText := true, laidKinds := [.data, .data, .data, .data, .sentinel, .sentinel, .widerDeep, .pinned], laidTests := true, laidLooks := .later }
def QcirAgainCardSaid : Prop := Claim7.holds Tryz.pinned (.plain (OpenSpec.ofChange qcirAgainSpec)) qcirAgainCard

/-- THE TIED CARD OF 'skolemlaw08.QcirKnown'. -/
def qcirKnownCard : Claim7 := { stood := { row := qcirKnownRow, standIns := [], harness := (true, "5d4d874353d535549195872a374e0a1a476df9e355fd7eca9e312ef99974863b"), looks := true }, kinds := [], alts := [], laidByText := true, laidKinds := [.data, .data, .data, .data, .sentinel, .sentinel, .widerDeep, .pinned], laidTests := true, laidLooks := .later }
def QcirKnownCardSaid : Prop := Claim7.holds Tryz.pinned (.plain (OpenSpec.ofChange qcirKnownSpec)) qcirKnownCard

/-- THE SECOND FORM's CARD OF 'skolemlaw08.QcirSpaces'. -/
def qcirSpacesUptoCard : Claim7 := { stood := { row := qcirSpacesUptoRow, standIns := [], harness := (true, "5d4d874353d535549195872a374e0a1a476df9e355fd7eca9e312ef99974863b"), looks := true }, kinds := [], alts := [], laidByText := true, laidKinds := [.data, .data, .data, .data, .sentinel, .sentinel, .widerDeep, .pinned], laidTests := true, laidLooks := .later }
def QcirSpacesUptoCardSaid : Prop := Claim7.holds Tryz.pinned (.plain (OpenSpec.upto qcirSpacesSpec)) qcirSpacesUptoCard

/-- THE SECOND FORM's CARD OF 'skolemlaw08.QcirShuffles'. -/
def qcirShufflesUptoCard : Claim7 := { stood := { row := qcirShufflesUptoRow, standIns := [], harness := (true, "5d4d874353d535549195872a374e0a1a476df9e355fd7eca9e312ef99974863b"), looks := true }, kinds := [], alts := [], laidByText := true, laidKinds := [.data, .data, .data, .data, .sentinel, .sentinel, .widerDeep, .pinned], laidTests := true, laidLooks := .later }
def QcirShufflesUptoCardSaid : Prop := Claim7.holds Tryz.pinned (.plain (OpenSpec.upto qcirShufflesSpec)) qcirShufflesUptoCard

/-- THE SECOND FORM's CARD OF 'skolemlaw08.QcirPrints'. -/
def qcirPrintsUptoCard : Claim7 := { stood := { row := qcirPrintsUptoRow, standIns := [], harness := (true, "5d4d874353d535549195872a374e0a1a476df9e355fd7eca9e312ef99974863b"), looks := true }, kinds := [], alts := [], laidByText := true, laidKinds := [.data, .data, .data, .data, .sentinel, .sentinel, .widerDeep, .pinned], laidTests := true, laidLooks := .later }
def QcirPrintsUptoCardSaid : Prop := Claim7.holds Tryz.pinned (.plain (OpenSpec.upto qcirPrintsSpec)) qcirPrintsUptoCard

/-- THE SECOND FORM's CARD OF 'skolemlaw08.QcirReads'. -/
def qcirReadsUptoCard : Claim7 := { stood := { row := qcirReadsUptoRow, standIns := [], harness := (true, "5d4d874353d535549195872a374e0a1a476df9e355fd7eca9e312ef99974863b"), looks := true }, kinds := [], alts := [], laidByText := true, laidKinds := [.data, .data, .data, .data, .sentinel, .sentinel, .widerDeep, .pinned], laidTests := true, laidLooks := .later }
def QcirReadsUptoCardSaid : Prop := Claim7.holds Tryz.pinned (.plain (OpenSpec.upto qcirReadsSpec)) qcirReadsUptoCard

/-- THE SECOND FORM's CARD OF 'skolemlaw08.QcirBack'. -/
def qcirBackUptoCard : Claim7 := { stood := { row := qcirBackUptoRow, standIns := [], harness := (true, "5d4d874353d535549195872a374e0a1a476df9e355fd7eca9e312ef99974863b"), looks := true }, kinds := [], alts := [], laidByText := true, laidKinds := [.data, .data, .data, .data, .sentinel, .sentinel, .widerDeep, .pinned], laidTests := true, laidLooks := .later }
def QcirBackUptoCardSaid : Prop := Claim7.holds Tryz.pinned (.plain (OpenSpec.upto qcirBackSpec)) qcirBackUptoCard

/-- THE SECOND FORM's CARD OF 'skolemlaw08.QcirAgain'. -/
def qcirAgainUptoCard : Claim7 := { stood := { row := qcirAgainUptoRow, standIns := [], harness := (true, "5d4d874353d535549195872a374e0a1a476df9e355fd7eca9e312ef99974863b"), looks := true }, kinds := [], alts := [], laidByText := true, laidKinds := [.data, .data, .data, .data, .sentinel, .sentinel, .widerDeep, .pinned], laidTests := true, laidLooks := .later }
def QcirAgainUptoCardSaid : Prop := Claim7.holds Tryz.pinned (.plain (OpenSpec.upto qcirAgainSpec)) qcirAgainUptoCard

/-- THE SECOND FORM's CARD OF 'skolemlaw08.QcirKnown'. -/
def qcirKnownUptoCard : Claim7 := { stood := { row := qcirKnownUptoRow, standIns := [], harness := (true, "5d4d874353d535549195872a374e0a1a476df9e355fd7eca9e312ef99974863b"), looks := true }, kinds := [], alts := [], laidByText := true, laidKinds := [.data, .data, .data, .data, .sentinel, .sentinel, .widerDeep, .pinned], laidTests := true, laidLooks := .later }
def QcirKnownUptoCardSaid : Prop := Claim7.holds Tryz.pinned (.plain (OpenSpec.upto qcirKnownSpec)) qcirKnownUptoCard
end Rows
end Go.Proofs.YtnlobmepajakcaaGreatDoor
