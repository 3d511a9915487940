/-
  DERIVED. GIVEN WITH THE SEED: THE CARDS: each row of YtidpamcogkonnaaGreatDoorRows.lean that lists a variable, with what it lists TIED to the program's text (the seventh form; the later family's looks); each row that meets fmt, with fmt's text TOLD by the authors' own Lean function (tested against real Go, not proved from fmt's source: count such statements apart). THE CARD IS WHAT COUNTS. Prove the row's statement (the work); the ties are given (YtidpamcogkonnaaGreatDoorTie.lean); close each card by the builder's one call (the guide's Derived/Test/ToyasCard.lean, 'card_holds'). Laid BY PROGRAM, IN A SANDBOX (cutbox-door.mjs). By AI agents, Wed Nov 11 2026. No macro, syntax, notation, axiom, sorry.
-/
import Derived.Test.YtidpamcogkonnaaGreatDoorRows
import GoSem.ClaimSeven
namespace Go.Proofs.YtidpamcogkonnaaGreatDoor
namespace Rows

/-- THE TIED CARD OF 'pennantlaw08.DatumKnown'. -/
def datumKnownCard : Claim7 := { stood := { row := datumKnownRow, standIns := [], harness := (true, "084d3b68a288d89e8d3a8d4e0b7b6e7030fdce8a0191abd0879c4bf750fbc3eb"), looks := true }, kinds := [], alts := [], laidByText := true, laidKinds := [.data, .data, .data, .data, .sentinel, .sentinel, .pinned], laidTests := true, laidLooks := .later }
def DatumKnownCardSaid : Prop := Claim7.holds Tryz.pinned (.plain (OpenSpec.ofChange datumKnownSpec)) datumKnownCard

/-- THE TIED CARD OF 'pennantlaw09.MatchKnown'. -/
def matchKnownCard : Claim7 := { stood := { row := matchKnownRow, standIns := [], harness := (true, "084d3b68a288d89e8d3a8d4e0b7b6e7030fdce8a0191abd0879c4bf750fbc3eb"), looks := true }, kinds := [], alts := [], laidByText := true, laidKinds := [.data, .data, .data, .data, .sentinel, .sentinel, .pinned], laidTests := true, laidLooks := .later }
def MatchKnownCardSaid : Prop := Claim7.holds Tryz.pinned (.plain (OpenSpec.ofChange matchKnownSpec)) matchKnownCard

/-- THE TIED CARD OF 'pennantlaw17.CpsrunKnown'. -/
def cpsrunKnownCard : Claim7 := { stood := { row := cpsrunKnownRow, standIns := [], harness := (true, "084d3b68a288d89e8d3a8d4e0b7b6e7030fdce8a0191abd0879c4bf750fbc3eb"), looks := true }, kinds := [], alts := [], laidByText := true, laidKinds := [.data, .pinned], laidTests := true, laidLooks := .later }
def CpsrunKnownCardSaid : Prop := Claim7.holds Tryz.pinned (.plain (OpenSpec.ofChange cpsrunKnownSpec)) cpsrunKnownCard

/-- THE SECOND FORM's CARD OF 'pennantlaw08.DatumKnown'. -/
def datumKnownUptoCard : Claim7 := { stood := { row := datumKnownUptoRow, standIns := [], harness := (true, "084d3b68a288d89e8d3a8d4e0b7b6e7030fdce8a0191abd0879c4bf750fbc3eb"), looks := true }, kinds := [], alts := [], laidByText := true, laidKinds := [.data, .data, .data, .data, .sentinel, .sentinel, .pinned], laidTests := true, laidLooks := .later }
def DatumKnownUptoCardSaid : Prop := Claim7.holds Tryz.pinned (.plain (OpenSpec.upto datumKnownSpec)) datumKnownUptoCard

/-- THE SECOND FORM's CARD OF 'pennantlaw09.MatchKnown'. -/
def matchKnownUptoCard : Claim7 := { stood := { row := matchKnownUptoRow, standIns := [], harness := (true, "084d3b68a288d89e8d3a8d4e0b7b6e7030fdce8a0191abd0879c4bf750fbc3eb"), looks := true }, kinds := [], alts := [], laidByText := true, laidKinds := [.data, .data, .data, .data, .sentinel, .sentinel, .pinned], laidTests := true, laidLooks := .later }
def MatchKnownUptoCardSaid : Prop := Claim7.holds Tryz.pinned (.plain (OpenSpec.upto matchKnownSpec)) matchKnownUptoCard

/-- THE SECOND FORM's CARD OF 'pennantlaw17.CpsrunKnown'. -/
def cpsrunKnownUptoCard : Claim7 := { stood := { row := cpsrunKnownUptoRow, standIns := [], harness := (true, "084d3b68a288d89e8d3a8d4e0b7b6e7030fdce8a0191abd0879c4bf750fbc3eb"), looks := true }, kinds := [], alts := [], laidByText := true, laidKinds := [.data, .pinned], laidTests := true, laidLooks := .later }
def CpsrunKnownUptoCardSaid : Prop := Claim7.holds Tryz.pinned (.plain (OpenSpec.upto cpsrunKnownSpec)) cpsrunKnownUptoCard
end Rows
end Go.Proofs.YtidpamcogkonnaaGreatDoor
