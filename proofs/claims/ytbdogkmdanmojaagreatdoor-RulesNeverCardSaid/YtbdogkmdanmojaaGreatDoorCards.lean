/-
  DERIVED. GIVEN WITH THE SEED: THE CARDS: each row of YtbdogkmdanmojaaGreatDoorRows.lean that lists a variable, with what it lists TIED to the program's text (the seventh form; the later family's looks); each row that meets fmt, with fmt's text TOLD by the authors' own Lean function (tested against real Go, not proved from fmt's source: count such statements apart). THE CARD IS WHAT COUNTS. Prove the row's statement (the work); the ties are given (YtbdogkmdanmojaaGreatDoorTie.lean); close each card by the builder's one call (the guide's Derived/Test/ToyasCard.lean, 'card_holds'). Laid BY PROGRAM, IN A SANDBOX (cutbox-door.mjs). By AI agents, Wed Nov 11 2026. No macro, syntax, notation, axiom, sorry.
-/
import Derived.Test.YtbdogkmdanmojaaGreatDoorRows
import GoSem.ClaimSeven
namespace Go.Proofs.YtbdogkmdanmojaaGreatDoor
namespace Rows

/-- THE TIED CARD OF 'hallmarklaw26.RulesNever'. -/
def rulesNeverCard : Claim7 := { stood := { row := rulesNeverRow, standIns := [], harness := (true, "14cd69eaef8c2fe7a9532345b67ce0419f31b4d1ca6bda4bfa71d49e94a7e3fc"), looks := true }, kinds := [], alts := [], laidByText := true, laidKinds := [.pinned, .data, .data, .data, .data, .sentinel, .sentinel], laidTests := true, laidLooks := .later }
def RulesNeverCardSaid : Prop := Claim7.holds Tryz.pinned (.plain (OpenSpec.ofChange rulesNeverSpec)) rulesNeverCard

/-- THE SECOND FORM's CARD OF 'hallmarklaw26.RulesNever'. -/
def rulesNeverUptoCard : Claim7 := { stood := { row := rulesNeverUptoRow, standIns := [], harness := (true, "14cd69eaef8c2fe7a9532345b67ce0419f31b4d1ca6bda4bfa71d49e94a7e3fc"), looks := true }, kinds := [], alts := [], laidByText := true, laidKinds := [.pinned, .data, .data, .data, .data, .sentinel, .sentinel], laidTests := true, laidLooks := .later }
def RulesNeverUptoCardSaid : Prop := Claim7.holds Tryz.pinned (.plain (OpenSpec.upto rulesNeverSpec)) rulesNeverUptoCard
end Rows
end Go.Proofs.YtbdogkmdanmojaaGreatDoor
