/-
  DERIVED. GIVEN WITH THE SEED: THE CARDS: each row of YtoejmfiaaigpbaaGreatDoorRows.lean that lists a variable, with what it lists TIED to the program's text (the seventh form; the later family's looks); each row that meets fmt, with fmt's text TOLD by the authors' own Lean function (tested against real Go, not proved from fmt's source: count such statements apart). THE CARD IS WHAT COUNTS. Prove the row's statement (the work); the ties are given (YtoejmfiaaigpbaaGreatDoorTie.lean); close each card by the builder's one call (the guide's Derived/Test/ToyasCard.lean, 'card_holds'). Laid BY PROGRAM, IN A SANDBOX (cutbox-door.mjs). By AI agents, Wed Nov 11 2026. No macro, syntax, notation, axiom, sorry.
-/
import Derived.Test.YtoejmfiaaigpbaaGreatDoorRows
import GoSem.ClaimSeven
namespace Go.Proofs.YtoejmfiaaigpbaaGreatDoor
namespace Rows

/-- THE TIED CARD OF 'pennantlaw17.CpsrunKnown'. -/
def cpsrunKnownCard : Claim7 := { stood := { row := cpsrunKnownRow, standIns := [], harness := (true, "9f0fd6d9e3adfa6c0802fcc0c70855c48bf1bc51fb1a9427b02e8e2ece802711"), looks := true }, kinds := [], alts := [], laidByText := true, laidKinds := [.data, .pinned], laidTests := true, laidLooks := .later }
def CpsrunKnownCardSaid : Prop := Claim7.holds Tryz.pinned (.plain (OpenSpec.ofChange cpsrunKnownSpec)) cpsrunKnownCard

/-- THE TIED CARD OF 'pennantlaw08.DatumKnown'. -/
def datumKnownCard : Claim7 := { stood := { row := datumKnownRow, standIns := [], harness := (true, "9f0fd6d9e3adfa6c0802fcc0c70855c48bf1bc51fb1a9427b02e8e2ece802711"), looks := true }, kinds := [], alts := [], laidByText := true, laidKinds := [.data, .data, .data, .data, .sentinel, .sentinel, .pinned], laidTests := true, laidLooks := .later }
def DatumKnownCardSaid : Prop := Claim7.holds Tryz.pinned (.plain (OpenSpec.ofChange datumKnownSpec)) datumKnownCard

/-- THE TIED CARD OF 'pennantlaw09.MatchKnown'. -/
def matchKnownCard : Claim7 := { stood := { row := matchKnownRow, standIns := [], harness := (true, "9f0fd6d9e3adfa6c0802fcc0c70855c48bf1bc51fb1a9427b02e8e2ece802711"), looks := true }, kinds := [], alts := [], laidByText := true, laidKinds := [.data, .data, .data, .data, .sentinel, .sentinel, .pinned], laidTests := true, laidLooks := .later }
def MatchKnownCardSaid : Prop := Claim7.holds Tryz.pinned (.plain (OpenSpec.ofChange matchKnownSpec)) matchKnownCard

/-- THE SECOND FORM's CARD OF 'pennantlaw17.CpsrunKnown'. -/
def cpsrunKnownUptoCard : Claim7 := { stood := { row := cpsrunKnownUptoRow, standIns := [], harness := (true, "9f0fd6d9e3adfa6c0802fcc0c70855c48bf1bc51fb1a9427b02e8e2ece802711"), looks := true }, kinds := [], alts := [], laidByText := true, laidKinds := [.data, .pinned], laidTests := true, laidLooks := .later }
def CpsrunKnownUptoCardSaid : Prop := Claim7.holds Tryz.pinned (.plain (OpenSpec.upto cpsrunKnownSpec)) cpsrunKnownUptoCard

/-- THE SECOND FORM's CARD OF 'pennantlaw08.DatumKnown'. -/
def datumKnownUptoCard : Claim7 := { stood := { row := datumKnownUptoRow, standIns := [], harness := (true, "9f0fd6d9e3adfa6c0802fcc0c70855c48bf1bc51fb1a9427b02e8e2ece802711"), looks := true }, kinds := [], alts := [], laidByText := true, laidKinds := [.data, .data, .data, .data, .sentinel, .sentinel, .pinned], laidTests := true, laidLooks := .later }
def DatumKnownUptoCardSaid : Prop := Claim7.holds Tryz.pinned (.plain (OpenSpec.upto datumKnownSpec)) datumKnownUptoCard

/-- THE SECOND FORM's CARD OF 'pennantlaw09.MatchKnown'. -/
def matchKnownUptoCard : Claim7 := { stood := { row := matchKnownUptoRow, standIns := [], harness := (true, "9f0fd6d9e3adfa6c0802fcc0c70855c48bf1bc51fb1a9427b02e8e2ece802711"), looks := true }, kinds := [], alts := [], laidByText := true, laidKinds := [.data, .data, .data, .data, .sentinel, .sentinel, .pinned], laidTests := true, laidLooks := .later }
def MatchKnownUptoCardSaid : Prop := Claim7.holds Tryz.pinned (.plain (OpenSpec.upto matchKnownSpec)) matchKnownUptoCard
end Rows
end Go.Proofs.YtoejmfiaaigpbaaGreatDoor
