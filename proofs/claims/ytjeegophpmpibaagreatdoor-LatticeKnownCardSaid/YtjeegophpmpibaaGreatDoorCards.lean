/-
  DERIVED. GIVEN WITH THE SEED: THE CARDS: each row of YtjeegophpmpibaaGreatDoorRows.lean that lists a variable, with what it lists TIED to the program's text (the seventh form; the later family's looks); each row that meets fmt, with fmt's text TOLD by the authors' own Lean function (tested against real Go, not proved from fmt's source: count such statements apart). THE CARD IS WHAT COUNTS. Prove the row's statement (the work); the ties are given (YtjeegophpmpibaaGreatDoorTie.lean); close each card by the builder's one call (the guide's Derived/Test/ToyasCard.lean, 'card_holds'). Laid BY PROGRAM, IN A SANDBOX (cutbox-door.mjs). By AI agents, Wed Nov 11 2026. No macro, syntax, notation, axiom, sorry.
-/
import Derived.Test.YtjeegophpmpibaaGreatDoorRows
import GoSem.ClaimSeven
namespace Go.Proofs.YtjeegophpmpibaaGreatDoor
namespace Rows

/-- THE TIED CARD OF 'hallmarklaw13.LatticeKnown'. -/
def latticeKnownCard : Claim7 := { stood := { row := latticeKnownRow, standIns := [], harness := (true, "70873cd2ffe1f2a306f4fbc526d52f897028552fa919bfb7c70c41adb04b84a6"), looks := false }, kinds := [], alts := [], laidByText := true, laidKinds := [.data, .pinned], laidTests := true, laidLooks := .later }
def LatticeKnownCardSaid : Prop := Claim7.holds Tryz.pinned (.plain (OpenSpec.ofChange latticeKnownSpec)) latticeKnownCard

/-- THE SECOND FORM's CARD OF 'hallmarklaw13.LatticeKnown'. -/
def latticeKnownUptoCard : Claim7 := { stood := { row := latticeKnownUptoRow, standIns := [], harness := (true, "70873cd2ffe1f2a306f4fbc526d52f897028552fa919bfb7c70c41adb04b84a6"), looks := false }, kinds := [], alts := [], laidByText := true, laidKinds := [.data, .pinned], laidTests := true, laidLooks := .later }
def LatticeKnownUptoCardSaid : Prop := Claim7.holds Tryz.pinned (.plain (OpenSpec.upto latticeKnownSpec)) latticeKnownUptoCard
end Rows
end Go.Proofs.YtjeegophpmpibaaGreatDoor
