/-
  DERIVED. GIVEN WITH THE SEED: THE CARDS: each row of YthcmnajcjapjbaaGreatDoorRows.lean that lists a variable, with what it lists TIED to the program's text (the seventh form; the later family's looks); each row that meets fmt, with fmt's text TOLD by the authors' own Lean function (tested against real Go, not proved from fmt's source: count such statements apart). THE CARD IS WHAT COUNTS. Prove the row's statement (the work); the ties are given (YthcmnajcjapjbaaGreatDoorTie.lean); close each card by the builder's one call (the guide's Derived/Test/ToyasCard.lean, 'card_holds'). Laid BY PROGRAM, IN A SANDBOX (cutbox-door.mjs). By AI agents, Wed Nov 11 2026. No macro, syntax, notation, axiom, sorry.
-/
import Derived.Test.YthcmnajcjapjbaaGreatDoorRows
import GoSem.ClaimSeven
namespace Go.Proofs.YthcmnajcjapjbaaGreatDoor
namespace Rows

/-- THE TIED CARD OF 'pennantlaw08.DatumWrites'. -/
def datumWritesCard : Claim7 := { stood := { row := datumWritesRow, standIns := [], harness := (true, "4d8154cab478aa38fcc041b37910c371e0b9df6ae446f7c5f2f2afe29cc12d67"), looks := true }, kinds := [], alts := [], laidByText := true, laidKinds := [.data, .data, .data, .data, .sentinel, .sentinel, .pinned], laidTests := true, laidLooks := .later }
def DatumWritesCardSaid : Prop := Claim7.holds Tryz.pinned (.plain (OpenSpec.ofChange datumWritesSpec)) datumWritesCard

/-- THE TIED CARD OF 'pennantlaw08.DatumBack'. -/
def datumBackCard : Claim7 := { stood := { row := datumBackRow, standIns := [], harness := (true, "4d8154cab478aa38fcc041b37910c371e0b9df6ae446f7c5f2f2afe29cc12d67"), looks := true }, kinds := [], alts := [], laidByText := true, laidKinds := [.data, .data, .data, .data, .sentinel, .sentinel, .pinned], laidTests := true, laidLooks := .later }
def DatumBackCardSaid : Prop := Claim7.holds Tryz.pinned (.plain (OpenSpec.ofChange datumBackSpec)) datumBackCard

/-- THE TIED CARD OF 'pennantlaw08.DatumTokens'. -/
def datumTokensCard : Claim7 := { stood := { row := datumTokensRow, standIns := [], harness := (true, "4d8154cab478aa38fcc041b37910c371e0b9df6ae446f7c5f2f2afe29cc12d67"), looks := true }, kinds := [], alts := [], laidByText := true, laidKinds := [.data, .data, .data, .data, .sentinel, .sentinel, .pinned], laidTests := true, laidLooks := .later }
def DatumTokensCardSaid : Prop := Claim7.holds Tryz.pinned (.plain (OpenSpec.ofChange datumTokensSpec)) datumTokensCard

/-- THE TIED CARD OF 'pennantlaw08.DatumDeep'. -/
def datumDeepCard : Claim7 := { stood := { row := datumDeepRow, standIns := [], harness := (true, "4d8154cab478aa38fcc041b37910c371e0b9df6ae446f7c5f2f2afe29cc12d67"), looks := true }, kinds := [], alts := [], laidByText := true, laidKinds := [.data, .data, .data, .data, .sentinel, .sentinel, .pinned], laidTests := true, laidLooks := .later }
def DatumDeepCardSaid : Prop := Claim7.holds Tryz.pinned (.plain (OpenSpec.ofChange datumDeepSpec)) datumDeepCard

/-- THE SECOND FORM's CARD OF 'pennantlaw08.DatumWrites'. -/
def datumWritesUptoCard : Claim7 := { stood := { row := datumWritesUptoRow, standIns := [], harness := (true, "4d8154cab478aa38fcc041b37910c371e0b9df6ae446f7c5f2f2afe29cc12d67"), looks := true }, kinds := [], alts := [], laidByText := true, laidKinds := [.data, .data, .data, .data, .sentinel, .sentinel, .pinned], laidTests := true, laidLooks := .later }
def DatumWritesUptoCardSaid : Prop := Claim7.holds Tryz.pinned (.plain (OpenSpec.upto datumWritesSpec)) datumWritesUptoCard

/-- THE SECOND FORM's CARD OF 'pennantlaw08.DatumBack'. -/
def datumBackUptoCard : Claim7 := { stood := { row := datumBackUptoRow, standIns := [], harness := (true, "4d8154cab478aa38fcc041b37910c371e0b9df6ae446f7c5f2f2afe29cc12d67"), looks := true }, kinds := [], alts := [], laidByText := true, laidKinds := [.data, .data, .data, .data, .sentinel, .sentinel, .pinned], laidTests := true, laidLooks := .later }
def DatumBackUptoCardSaid : Prop := Claim7.holds Tryz.pinned (.plain (OpenSpec.upto datumBackSpec)) datumBackUptoCard

/-- THE SECOND FORM's CARD OF 'pennantlaw08.DatumTokens'. -/
def datumTokensUptoCard : Claim7 := { stood := { row := datumTokensUptoRow, standIns := [], harness := (true, "4d8154cab478aa38fcc041b37910c371e0b9df6ae446f7c5f2f2afe29cc12d67"), looks := true }, kinds := [], alts := [], laidByText := true, laidKinds := [.data, .data, .data, .data, .sentinel, .sentinel, .pinned], laidTests := true, laidLooks := .later }
def DatumTokensUptoCardSaid : Prop := Claim7.holds Tryz.pinned (.plain (OpenSpec.upto datumTokensSpec)) datumTokensUptoCard

/-- THE SECOND FORM's CARD OF 'pennantlaw08.DatumDeep'. -/
def datumDeepUptoCard : Claim7 := { stood := { row := datumDeepUptoRow, standIns := [], harness := (true, "4d8154cab478aa38fcc041b37910c371e0b9df6ae446f7c5f2f2afe29cc12d67"), looks := true }, kinds := [], alts := [], laidByText := true, laidKinds := [.data, .data, .data, .data, .sentinel, .sentinel, .pinned], laidTests := true, laidLooks := .later }
def DatumDeepUptoCardSaid : Prop := Claim7.holds Tryz.pinned (.plain (OpenSpec.upto datumDeepSpec)) datumDeepUptoCard
end Rows
end Go.Proofs.YthcmnajcjapjbaaGreatDoor
