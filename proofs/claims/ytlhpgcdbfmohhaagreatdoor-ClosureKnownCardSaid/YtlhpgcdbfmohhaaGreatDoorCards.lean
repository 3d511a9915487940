/-
  DERIVED. GIVEN WITH THE SEED: THE CARDS: each row of YtlhpgcdbfmohhaaGreatDoorRows.lean that lists a variable, with what it lists TIED to the program's text (the seventh form; the later family's looks); each row that meets fmt, with fmt's text TOLD by the authors' own Lean function (tested against real Go, not proved from fmt's source: count such statements apart). THE CARD IS WHAT COUNTS. Prove the row's statement (the work); the ties are given (YtlhpgcdbfmohhaaGreatDoorTie.lean); close each card by the builder's one call (the guide's Derived/Test/ToyasCard.lean, 'card_holds'). Laid BY PROGRAM, IN A SANDBOX (cutbox-door.mjs). By AI agents, Wed Nov 11 2026. No macro, syntax, notation, axiom, sorry.
-/
import Derived.Test.YtlhpgcdbfmohhaaGreatDoorRows
import GoSem.ClaimSeven
namespace Go.Proofs.YtlhpgcdbfmohhaaGreatDoor
namespace Rows

/-- THE TIED CARD OF 'pennantlaw18.ShrinkKnown'. -/
def shrinkKnownCard : Claim7 := { stood := { row := shrinkKnownRow, standIns := [], harness := (true, "51d549003e46094ace3ca557ecb2205714cd580f5dddb83f1552cd41e78888dd"), looks := false }, kinds := [], alts := [], laidByText := true, laidKinds := [.data, .pinned], laidTests := true, laidLooks := .later }
def ShrinkKnownCardSaid : Prop := Claim7.holds Tryz.pinned (.plain (OpenSpec.ofChange shrinkKnownSpec)) shrinkKnownCard

/-- THE TIED CARD OF 'pennantlaw13.ValueKnown'. -/
def valueKnownCard : Claim7 := { stood := { row := valueKnownRow, standIns := [], harness := (true, "51d549003e46094ace3ca557ecb2205714cd580f5dddb83f1552cd41e78888dd"), looks := false }, kinds := [], alts := [], laidByText := true, laidKinds := [.data, .pinned], laidTests := true, laidLooks := .later }
def ValueKnownCardSaid : Prop := Claim7.holds Tryz.pinned (.plain (OpenSpec.ofChange valueKnownSpec)) valueKnownCard

/-- THE TIED CARD OF 'pennantlaw19.ClosureKnown'. -/
def closureKnownCard : Claim7 := { stood := { row := closureKnownRow, standIns := [], harness := (true, "51d549003e46094ace3ca557ecb2205714cd580f5dddb83f1552cd41e78888dd"), looks := false }, kinds := [], alts := [], laidByText := true, laidKinds := [.data, .pinned], laidTests := true, laidLooks := .later }
def ClosureKnownCardSaid : Prop := Claim7.holds Tryz.pinned (.plain (OpenSpec.ofChange closureKnownSpec)) closureKnownCard

/-- THE SECOND FORM's CARD OF 'pennantlaw18.ShrinkKnown'. -/
def shrinkKnownUptoCard : Claim7 := { stood := { row := shrinkKnownUptoRow, standIns := [], harness := (true, "51d549003e46094ace3ca557ecb2205714cd580f5dddb83f1552cd41e78888dd"), looks := false }, kinds := [], alts := [], laidByText := true, laidKinds := [.data, .pinned], laidTests := true, laidLooks := .later }
def ShrinkKnownUptoCardSaid : Prop := Claim7.holds Tryz.pinned (.plain (OpenSpec.upto shrinkKnownSpec)) shrinkKnownUptoCard

/-- THE SECOND FORM's CARD OF 'pennantlaw13.ValueKnown'. -/
def valueKnownUptoCard : Claim7 := { stood := { row := valueKnownUptoRow, standIns := [], harness := (true, "51d549003e46094ace3ca557ecb2205714cd580f5dddb83f1552cd41e78888dd"), looks := false }, kinds := [], alts := [], laidByText := true, laidKinds := [.data, .pinned], laidTests := true, laidLooks := .later }
def ValueKnownUptoCardSaid : Prop := Claim7.holds Tryz.pinned (.plain (OpenSpec.upto valueKnownSpec)) valueKnownUptoCard

/-- THE SECOND FORM's CARD OF 'pennantlaw19.ClosureKnown'. -/
def closureKnownUptoCard : Claim7 := { stood := { row := closureKnownUptoRow, standIns := [], harness := (true, "51d549003e46094ace3ca557ecb2205714cd580f5dddb83f1552cd41e78888dd"), looks := false }, kinds := [], alts := [], laidByText := true, laidKinds := [.data, .pinned], laidTests := true, laidLooks := .later }
def ClosureKnownUptoCardSaid : Prop := Claim7.holds Tryz.pinned (.plain (OpenSpec.upto closureKnownSpec)) closureKnownUptoCard
end Rows
end Go.Proofs.YtlhpgcdbfmohhaaGreatDoor
