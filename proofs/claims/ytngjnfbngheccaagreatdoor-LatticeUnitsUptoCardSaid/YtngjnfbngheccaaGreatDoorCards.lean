/-
  DERIVED. GIVEN WITH THE SEED: THE CARDS: each row of YtngjnfbngheccaaGreatDoorRows.lean that lists a variable, with what it lists TIED to the program's text (the seventh form; the later family's looks); each row that meets fmt, with fmt's text TOLD by the authors' own Lean function (tested against real Go, not proved from fmt's source: count such statements apart). THE CARD IS WHAT COUNTS. Prove the row's statement (the work); the ties are given (YtngjnfbngheccaaGreatDoorTie.lean); close each card by the builder's one call (the guide's Derived/Test/ToyasCard.lean, 'card_holds'). Laid BY PROGRAM, IN A SANDBOX (cutbox-door.mjs). By AI agents, Wed Nov 11 2026. No macro, syntax, notation, axiom, sorry.
-/
import Derived.Test.YtngjnfbngheccaaGreatDoorRows
import GoSem.ClaimSeven
namespace Go.Proofs.YtngjnfbngheccaaGreatDoor
namespace Rows

/-- THE TIED CARD OF 'hallmarklaw13.LatticeUnits'. -/
def latticeUnitsCard : Claim7 := { stood := { row := latticeUnitsRow, standIns := [], harness := (true, "d470939f4166467f5387314b941ebc3b2e6527d6cd16541298b3547d7a535cf5"), looks := false }, kinds := [], alts := [], laidByText := true, laidKinds := [.data, .pinned], laidTests := true, laidLooks := .later }
def LatticeUnitsCardSaid : Prop := Claim7.holds Tryz.pinned (.plain (OpenSpec.ofChange latticeUnitsSpec)) latticeUnitsCard

/-- THE SECOND FORM's CARD OF 'hallmarklaw13.LatticeUnits'. -/
def latticeUnitsUptoCard : Claim7 := { stood := { row := latticeUnitsUptoRow, standIns := [], harness := (true, "d470939f4166467f5387314b941ebc3b2e6527d6cd16541298b3547d7a535cf5"), looks := false }, kinds := [], alts := [], laidByText := true, laidKinds := [.data, .pinned], laidTests := true, laidLooks := .later }
def LatticeUnitsUptoCardSaid : Prop := Claim7.holds Tryz.pinned (.plain (OpenSpec.upto latticeUnitsSpec)) latticeUnitsUptoCard
end Rows
end Go.Proofs.YtngjnfbngheccaaGreatDoor
