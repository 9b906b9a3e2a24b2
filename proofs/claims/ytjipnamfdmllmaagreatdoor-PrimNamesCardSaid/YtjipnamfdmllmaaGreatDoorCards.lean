/-
  DERIVED. GIVEN WITH THE SEED: THE CARDS: each row of YtjipnamfdmllmaaGreatDoorRows.lean that lists a variable, with what it lists TIED to the program's text (the seventh form; the later family's looks); each row that meets fmt, with fmt's text TOLD by the authors' own Lean function (tested against real Go, not proved from fmt's source: count such statements apart). THE CARD IS WHAT COUNTS. Prove the row's statement (the work); the ties are given (YtjipnamfdmllmaaGreatDoorTie.lean); close each card by the builder's one call (the guide's Derived/Test/ToyasCard.lean, 'card_holds'). Laid BY PROGRAM, IN A SANDBOX (cutbox-door.mjs). By AI agents, Wed Nov 11 2026. No macro, syntax, notation, axiom, sorry.
-/
import Derived.Test.YtjipnamfdmllmaaGreatDoorRows
import GoSem.ClaimSeven
namespace Go.Proofs.YtjipnamfdmllmaaGreatDoor
namespace Rows

/-- THE TIED CARD OF 'hallmarklaw21.PrimNames'. -/
def primNamesCard : Claim7 := { stood := { row := primNamesRow, standIns := [], harness := (true, "e25de1bd31daf99def3330d08f3170902ae2e85d17b164368ba9761d8cc18898"), looks := true }, kinds := [], alts := [], laidByText := true, laidKinds := [.data, .data, .data, .data, .sentinel, .sentinel, .pinned], laidTests := true, laidLooks := .later }
def PrimNamesCardSaid : Prop := Claim7.holds Tryz.pinned (.plain (OpenSpec.ofChange primNamesSpec)) primNamesCard

/-- THE SECOND FORM's CARD OF 'hallmarklaw21.PrimNames'. -/
def primNamesUptoCard : Claim7 := { stood := { row := primNamesUptoRow, standIns := [], harness := (true, "e25de1bd31daf99def3330d08f3170902ae2e85d17b164368ba9761d8cc18898"), looks := true }, kinds := [], alts := [], laidByText := true, laidKinds := [.data, .data, .data, .data, .sentinel, .sentinel, .pinned], laidTests := true, laidLooks := .later }
def PrimNamesUptoCardSaid : Prop := Claim7.holds Tryz.pinned (.plain (OpenSpec.upto primNamesSpec)) primNamesUptoCard
end Rows
end Go.Proofs.YtjipnamfdmllmaaGreatDoor
