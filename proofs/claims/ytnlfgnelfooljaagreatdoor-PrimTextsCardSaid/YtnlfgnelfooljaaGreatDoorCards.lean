/-
  DERIVED. GIVEN WITH THE SEED: THE CARDS: each row of YtnlfgnelfooljaaGreatDoorRows.lean that lists a variable, with what it lists TIED to the program's text (the seventh form; the later family's looks); each row that meets fmt, with fmt's text TOLD by the authors' own Lean function (tested against real Go, not proved from fmt's source: count such statements apart). THE CARD IS WHAT COUNTS. Prove the row's statement (the work); the ties are given (YtnlfgnelfooljaaGreatDoorTie.lean); close each card by the builder's one call (the guide's Derived/Test/ToyasCard.lean, 'card_holds'). Laid BY PROGRAM, IN A SANDBOX (cutbox-door.mjs). By AI agents, Wed Nov 11 2026. No macro, syntax, notation, axiom, sorry.
-/
import Derived.Test.YtnlfgnelfooljaaGreatDoorRows
import GoSem.ClaimSeven
namespace Go.Proofs.YtnlfgnelfooljaaGreatDoor
namespace Rows

/-- THE TIED CARD OF 'hallmarklaw21.PrimTexts'. -/
def primTextsCard : Claim7 := { stood := { row := primTextsRow, standIns := [], harness := (true, "39a91745c9fb7d7e798195b83356dee6b4fae3cc1058acf9956df1ca4a06f4b8"), looks := true }, kinds := [], alts := [], laidByText := true, laidKinds := [.data, .data, .data, .data, .sentinel, .sentinel, .pinned], laidTests := true, laidLooks := .later }
def PrimTextsCardSaid : Prop := Claim7.holds Tryz.pinned (.plain (OpenSpec.ofChange primTextsSpec)) primTextsCard

/-- THE SECOND FORM's CARD OF 'hallmarklaw21.PrimTexts'. -/
def primTextsUptoCard : Claim7 := { stood := { row := primTextsUptoRow, standIns := [], harness := (true, "39a91745c9fb7d7e798195b83356dee6b4fae3cc1058acf9956df1ca4a06f4b8"), looks := true }, kinds := [], alts := [], laidByText := true, laidKinds := [.data, .data, .data, .data, .sentinel, .sentinel, .pinned], laidTests := true, laidLooks := .later }
def PrimTextsUptoCardSaid : Prop := Claim7.holds Tryz.pinned (.plain (OpenSpec.upto primTextsSpec)) primTextsUptoCard
end Rows
end Go.Proofs.YtnlfgnelfooljaaGreatDoor
