/-
  DERIVED. GIVEN WITH THE SEED: THE CARDS: each row of YtbdfljdgapkbcaaGreatDoorRows.lean that lists a variable, with what it lists TIED to the program's text (the seventh form; the later family's looks); each row that meets fmt, with fmt's text TOLD by the authors' own Lean function (tested against real Go, not proved from fmt's source: count such statements apart). THE CARD IS WHAT COUNTS. Prove the row's statement (the work); the ties are given (YtbdfljdgapkbcaaGreatDoorTie.lean); close each card by the builder's one call (the guide's Derived/Test/ToyasCard.lean, 'card_holds'). Laid BY PROGRAM, IN A SANDBOX (cutbox-door.mjs). By AI agents, Wed Nov 11 2026. No macro, syntax, notation, axiom, sorry.
-/
import Derived.Test.YtbdfljdgapkbcaaGreatDoorRows
import GoSem.ClaimSeven
namespace Go.Proofs.YtbdfljdgapkbcaaGreatDoor
namespace Rows

/-- THE TIED CARD OF 'pennantlaw20.IselErrors'. -/
def iselErrorsCard : Claim7 := { stood := { row := iselErrorsRow, standIns := [], harness := (true, "2810b233bac8c7ef22e7b0e92ed461633b0ec45dac49ab0f66f6ed4b4a5bae97"), looks := false }, kinds := [], alts := [], laidByText := true, laidKinds := [.data, .pinned], laidTests := true, laidLooks := .later }
def IselErrorsCardSaid : Prop := Claim7.holds Tryz.pinned (.plain (OpenSpec.ofChange iselErrorsSpec)) iselErrorsCard

/-- THE TIED CARD OF 'pennantlaw20.IselRight'. -/
def iselRightCard : Claim7 := { stood := { row := iselRightRow, standIns := [], harness := (true, "2810b233bac8c7ef22e7b0e92ed461633b0ec45dac49ab0f66f6ed4b4a5bae97"), looks := false }, kinds := [], alts := [], laidByText := true, laidKinds := [.data, .pinned], laidTests := true, laidLooks := .later }
def IselRightCardSaid : Prop := Claim7.holds Tryz.pinned (.plain (OpenSpec.ofChange iselRightSpec)) iselRightCard

/-- THE SECOND FORM's CARD OF 'pennantlaw20.IselErrors'. -/
def iselErrorsUptoCard : Claim7 := { stood := { row := iselErrorsUptoRow, standIns := [], harness := (true, "2810b233bac8c7ef22e7b0e92ed461633b0ec45dac49ab0f66f6ed4b4a5bae97"), looks := false }, kinds := [], alts := [], laidByText := true, laidKinds := [.data, .pinned], laidTests := true, laidLooks := .later }
def IselErrorsUptoCardSaid : Prop := Claim7.holds Tryz.pinned (.plain (OpenSpec.upto iselErrorsSpec)) iselErrorsUptoCard

/-- THE SECOND FORM's CARD OF 'pennantlaw20.IselRight'. -/
def iselRightUptoCard : Claim7 := { stood := { row := iselRightUptoRow, standIns := [], harness := (true, "2810b233bac8c7ef22e7b0e92ed461633b0ec45dac49ab0f66f6ed4b4a5bae97"), looks := false }, kinds := [], alts := [], laidByText := true, laidKinds := [.data, .pinned], laidTests := true, laidLooks := .later }
def IselRightUptoCardSaid : Prop := Claim7.holds Tryz.pinned (.plain (OpenSpec.upto iselRightSpec)) iselRightUptoCard
end Rows
end Go.Proofs.YtbdfljdgapkbcaaGreatDoor
