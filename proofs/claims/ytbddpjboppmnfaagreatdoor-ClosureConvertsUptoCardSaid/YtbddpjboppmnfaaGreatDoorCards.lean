/-
  DERIVED. GIVEN WITH THE SEED: THE CARDS: each row of YtbddpjboppmnfaaGreatDoorRows.lean that lists a variable, with what it lists TIED to the program's text (the seventh form; the later family's looks); each row that meets fmt, with fmt's text TOLD by the authors' own Lean function (tested against real Go, not proved from fmt's source: count such statements apart). THE CARD IS WHAT COUNTS. Prove the row's statement (the work); the ties are given (YtbddpjboppmnfaaGreatDoorTie.lean); close each card by the builder's one call (the guide's Derived/Test/ToyasCard.lean, 'card_holds'). Laid BY PROGRAM, IN A SANDBOX (cutbox-door.mjs). By AI agents, Wed Nov 11 2026. No macro, syntax, notation, axiom, sorry.
-/
import Derived.Test.YtbddpjboppmnfaaGreatDoorRows
import GoSem.ClaimSeven
namespace Go.Proofs.YtbddpjboppmnfaaGreatDoor
namespace Rows

/-- THE TIED CARD OF 'pennantlaw19.ClosureConverts'. -/
def closureConvertsCard : Claim7 := { stood := { row := closureConvertsRow, standIns := [], harness := (true, "1b0c8041eb312074fe62918a786b82ba3dab95fe1f221aae3c49732bb25bac9f"), looks := false }, kinds := [], alts := [], laidByText := true, laidKinds := [.data, .pinned], laidTests := true, laidLooks := .later }
def ClosureConvertsCardSaid : Prop := Claim7.holds Tryz.pinned (.plain (OpenSpec.ofChange closureConvertsSpec)) closureConvertsCard

/-- THE TIED CARD OF 'pennantlaw19.ClosureClosed'. -/
def closureClosedCard : Claim7 := { stood := { row := closureClosedRow, standIns := [], harness := (true, "1b0c8041eb312074fe62918a786b82ba3dab95fe1f221aae3c49732bb25bac9f"), looks := false }, kinds := [], alts := [], laidByText := true, laidKinds := [.data, .pinned], laidTests := true, laidLooks := .later }
def ClosureClosedCardSaid : Prop := Claim7.holds Tryz.pinned (.plain (OpenSpec.ofChange closureClosedSpec)) closureClosedCard

/-- THE SECOND FORM's CARD OF 'pennantlaw19.ClosureConverts'. -/
def closureConvertsUptoCard : Claim7 := { stood := { row := closureConvertsUptoRow, standIns := [], harness := (true, "1b0c8041eb312074fe62918a786b82ba3dab95fe1f221aae3c49732bb25bac9f"), looks := false }, kinds := [], alts := [], laidByText := true, laidKinds := [.data, .pinned], laidTests := true, laidLooks := .later }
def ClosureConvertsUptoCardSaid : Prop := Claim7.holds Tryz.pinned (.plain (OpenSpec.upto closureConvertsSpec)) closureConvertsUptoCard

/-- THE SECOND FORM's CARD OF 'pennantlaw19.ClosureClosed'. -/
def closureClosedUptoCard : Claim7 := { stood := { row := closureClosedUptoRow, standIns := [], harness := (true, "1b0c8041eb312074fe62918a786b82ba3dab95fe1f221aae3c49732bb25bac9f"), looks := false }, kinds := [], alts := [], laidByText := true, laidKinds := [.data, .pinned], laidTests := true, laidLooks := .later }
def ClosureClosedUptoCardSaid : Prop := Claim7.holds Tryz.pinned (.plain (OpenSpec.upto closureClosedSpec)) closureClosedUptoCard
end Rows
end Go.Proofs.YtbddpjboppmnfaaGreatDoor
