/-
  DERIVED. GIVEN WITH THE SEED: THE CARDS: each row of YtagpffdamckekaaGreatDoorRows.lean that lists a variable, with what it lists TIED to the program's text (the seventh form; the later family's looks); each row that meets fmt, with fmt's text TOLD by the authors' own Lean function (tested against real Go, not proved from fmt's source: count such statements apart). THE CARD IS WHAT COUNTS. Prove the row's statement (the work); the ties are given (YtagpffdamckekaaGreatDoorTie.lean); close each card by the builder's one call (the guide's Derived/Test/ToyasCard.lean, 'card_holds'). Laid BY PROGRAM, IN A SANDBOX (cutbox-door.mjs). By AI agents, Wed Nov 11 2026. No macro, syntax, notation, axiom, sorry.
-/
import Derived.Test.YtagpffdamckekaaGreatDoorRows
import GoSem.ClaimSeven
namespace Go.Proofs.YtagpffdamckekaaGreatDoor
namespace Rows

/-- THE TIED CARD OF 'pennantlaw08.DatumLists'. -/
def datumListsCard : Claim7 := { stood := { row := datumListsRow, standIns := [], harness := (true, "d681b6b40d51452e0f2a8bd94e1c395ac5b95f1e49794f1032d5fd8ce319587b"), looks := true }, kinds := [], alts := [], laidByText := true, laidKinds := [.data, .data, .data, .data, .sentinel, .sentinel, .pinned], laidTests := true, laidLooks := .later }
def DatumListsCardSaid : Prop := Claim7.holds Tryz.pinned (.plain (OpenSpec.ofChange datumListsSpec)) datumListsCard

/-- THE SECOND FORM's CARD OF 'pennantlaw08.DatumLists'. -/
def datumListsUptoCard : Claim7 := { stood := { row := datumListsUptoRow, standIns := [], harness := (true, "d681b6b40d51452e0f2a8bd94e1c395ac5b95f1e49794f1032d5fd8ce319587b"), looks := true }, kinds := [], alts := [], laidByText := true, laidKinds := [.data, .data, .data, .data, .sentinel, .sentinel, .pinned], laidTests := true, laidLooks := .later }
def DatumListsUptoCardSaid : Prop := Claim7.holds Tryz.pinned (.plain (OpenSpec.upto datumListsSpec)) datumListsUptoCard
end Rows
end Go.Proofs.YtagpffdamckekaaGreatDoor
