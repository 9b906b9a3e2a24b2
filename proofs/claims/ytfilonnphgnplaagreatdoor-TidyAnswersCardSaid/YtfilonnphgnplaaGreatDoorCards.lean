/-
  DERIVED. GIVEN WITH THE SEED: THE CARDS: each row of YtfilonnphgnplaaGreatDoorRows.lean that lists a variable, with what it lists TIED to the program's text (the seventh form; the later family's looks); each row that meets fmt, with fmt's text TOLD by the authors' own Lean function (tested against real Go, not proved from fmt's source: count such statements apart). THE CARD IS WHAT COUNTS. Prove the row's statement (the work); the ties are given (YtfilonnphgnplaaGreatDoorTie.lean); close each card by the builder's one call (the guide's Derived/Test/ToyasCard.lean, 'card_holds'). Laid BY PROGRAM, IN A SANDBOX (cutbox-door.mjs). By AI agents, Wed Nov 11 2026. No macro, syntax, notation, axiom, sorry.
-/
import Derived.Test.YtfilonnphgnplaaGreatDoorRows
import GoSem.ClaimSeven
namespace Go.Proofs.YtfilonnphgnplaaGreatDoor
namespace Rows

/-- THE TIED CARD OF 'hallmarklaw11.TidyAnswers'. -/
def tidyAnswersCard : Claim7 := { stood := { row := tidyAnswersRow, standIns := [], harness := (true, "541e92813e5da91c0840f150485b916a371c883e588f63a879757b7dc75ba72f"), looks := false }, kinds := [], alts := [], laidByText := true, laidKinds := [.data, .pinned], laidTests := true, laidLooks := .later }
def TidyAnswersCardSaid : Prop := Claim7.holds Tryz.pinned (.plain (OpenSpec.ofChange tidyAnswersSpec)) tidyAnswersCard

/-- THE TIED CARD OF 'hallmarklaw11.TidyForms'. -/
def tidyFormsCard : Claim7 := { stood := { row := tidyFormsRow, standIns := [], harness := (true, "541e92813e5da91c0840f150485b916a371c883e588f63a879757b7dc75ba72f"), looks := false }, kinds := [], alts := [], laidByText := true, laidKinds := [.data, .pinned], laidTests := true, laidLooks := .later }
def TidyFormsCardSaid : Prop := Claim7.holds Tryz.pinned (.plain (OpenSpec.ofChange tidyFormsSpec)) tidyFormsCard

/-- THE TIED CARD OF 'hallmarklaw11.TidyHas'. -/
def tidyHasCard : Claim7 := { stood := { row := tidyHasRow, standIns := [], harness := (true, "541e92813e5da91c0840f150485b916a371c883e588f63a879757b7dc75ba72f"), looks := false }, kinds := [], alts := [], laidByText := true, laidKinds := [.data, .pinned], laidTests := true, laidLooks := .later }
def TidyHasCardSaid : Prop := Claim7.holds Tryz.pinned (.plain (OpenSpec.ofChange tidyHasSpec)) tidyHasCard

/-- THE TIED CARD OF 'hallmarklaw11.TidySums'. -/
def tidySumsCard : Claim7 := { stood := { row := tidySumsRow, standIns := [], harness := (true, "541e92813e5da91c0840f150485b916a371c883e588f63a879757b7dc75ba72f"), looks := false }, kinds := [], alts := [], laidByText := true, laidKinds := [.data, .pinned], laidTests := true, laidLooks := .later }
def TidySumsCardSaid : Prop := Claim7.holds Tryz.pinned (.plain (OpenSpec.ofChange tidySumsSpec)) tidySumsCard

/-- THE TIED CARD OF 'hallmarklaw11.TidyOnes'. -/
def tidyOnesCard : Claim7 := { stood := { row := tidyOnesRow, standIns := [], harness := (true, "541e92813e5da91c0840f150485b916a371c883e588f63a879757b7dc75ba72f"), looks := false }, kinds := [], alts := [], laidByText := true, laidKinds := [.data, .pinned], laidTests := true, laidLooks := .later }
def TidyOnesCardSaid : Prop := Claim7.holds Tryz.pinned (.plain (OpenSpec.ofChange tidyOnesSpec)) tidyOnesCard

/-- THE TIED CARD OF 'hallmarklaw11.TidyCuts'. -/
def tidyCutsCard : Claim7 := { stood := { row := tidyCutsRow, standIns := [], harness := (true, "541e92813e5da91c0840f150485b916a371c883e588f63a879757b7dc75ba72f"), looks := false }, kinds := [], alts := [], laidByText := true, laidKinds := [.data, .pinned], laidTests := true, laidLooks := .later }
def TidyCutsCardSaid : Prop := Claim7.holds Tryz.pinned (.plain (OpenSpec.ofChange tidyCutsSpec)) tidyCutsCard

/-- THE TIED CARD OF 'hallmarklaw11.TidyOrder'. -/
def tidyOrderCard : Claim7 := { stood := { row := tidyOrderRow, standIns := [], harness := (true, "541e92813e5da91c0840f150485b916a371c883e588f63a879757b7dc75ba72f"), looks := false }, kinds := [], alts := [], laidByText := true, laidKinds := [.data, .pinned], laidTests := true, laidLooks := .later }
def TidyOrderCardSaid : Prop := Claim7.holds Tryz.pinned (.plain (OpenSpec.ofChange tidyOrderSpec)) tidyOrderCard

/-- THE TIED CARD OF 'hallmarklaw11.TidyFresh'. -/
def tidyFreshCard : Claim7 := { stood := { row := tidyFreshRow, standIns := [], harness := (true, "541e92813e5da91c0840f150485b916a371c883e588f63a879757b7dc75ba72f"), looks := false }, kinds := [], alts := [], laidByText := true, laidKinds := [.data, .pinned], laidTests := true, laidLooks := .later }
def TidyFreshCardSaid : Prop := Claim7.holds Tryz.pinned (.plain (OpenSpec.ofChange tidyFreshSpec)) tidyFreshCard

/-- THE SECOND FORM's CARD OF 'hallmarklaw11.TidyAnswers'. -/
def tidyAnswersUptoCard : Claim7 := { stood := { row := tidyAnswersUptoRow, standIns := [], harness := (true, "541e92813e5da91c0840f150485b916a371c883e588f63a879757b7dc75ba72f"), looks := false }, kinds := [], alts := [], laidByText := true, laidKinds := [.data, .pinned], laidTests := true, laidLooks := .later }
def TidyAnswersUptoCardSaid : Prop := Claim7.holds Tryz.pinned (.plain (OpenSpec.upto tidyAnswersSpec)) tidyAnswersUptoCard

/-- THE SECOND FORM's CARD OF 'hallmarklaw11.TidyForms'. -/
def tidyFormsUptoCard : Claim7 := { stood := { row := tidyFormsUptoRow, standIns := [], harness := (true, "541e92813e5da91c0840f150485b916a371c883e588f63a879757b7dc75ba72f"), looks := false }, kinds := [], alts := [], laidByText := true, laidKinds := [.data, .pinned], laidTests := true, laidLooks := .later }
def TidyFormsUptoCardSaid : Prop := Claim7.holds Tryz.pinned (.plain (OpenSpec.upto tidyFormsSpec)) tidyFormsUptoCard

/-- THE SECOND FORM's CARD OF 'hallmarklaw11.TidyHas'. -/
def tidyHasUptoCard : Claim7 := { stood := { row := tidyHasUptoRow, standIns := [], harness := (true, "541e92813e5da91c0840f150485b916a371c883e588f63a879757b7dc75ba72f"), looks := false }, kinds := [], alts := [], laidByText := true, laidKinds := [.data, .pinned], laidTests := true, laidLooks := .later }
def TidyHasUptoCardSaid : Prop := Claim7.holds Tryz.pinned (.plain (OpenSpec.upto tidyHasSpec)) tidyHasUptoCard

/-- THE SECOND FORM's CARD OF 'hallmarklaw11.TidySums'. -/
def tidySumsUptoCard : Claim7 := { stood := { row := tidySumsUptoRow, standIns := [], harness := (true, "541e92813e5da91c0840f150485b916a371c883e588f63a879757b7dc75ba72f"), looks := false }, kinds := [], alts := [], laidByText := true, laidKinds := [.data, .pinned], laidTests := true, laidLooks := .later }
def TidySumsUptoCardSaid : Prop := Claim7.holds Tryz.pinned (.plain (OpenSpec.upto tidySumsSpec)) tidySumsUptoCard

/-- THE SECOND FORM's CARD OF 'hallmarklaw11.TidyOnes'. -/
def tidyOnesUptoCard : Claim7 := { stood := { row := tidyOnesUptoRow, standIns := [], harness := (true, "541e92813e5da91c0840f150485b916a371c883e588f63a879757b7dc75ba72f"), looks := false }, kinds := [], alts := [], laidByText := true, laidKinds := [.data, .pinned], laidTests := true, laidLooks := .later }
def TidyOnesUptoCardSaid : Prop := Claim7.holds Tryz.pinned (.plain (OpenSpec.upto tidyOnesSpec)) tidyOnesUptoCard

/-- THE SECOND FORM's CARD OF 'hallmarklaw11.TidyCuts'. -/
def tidyCutsUptoCard : Claim7 := { stood := { row := tidyCutsUptoRow, standIns := [], harness := (true, "541e92813e5da91c0840f150485b916a371c883e588f63a879757b7dc75ba72f"), looks := false }, kinds := [], alts := [], laidByText := true, laidKinds := [.data, .pinned], laidTests := true, laidLooks := .later }
def TidyCutsUptoCardSaid : Prop := Claim7.holds Tryz.pinned (.plain (OpenSpec.upto tidyCutsSpec)) tidyCutsUptoCard

/-- THE SECOND FORM's CARD OF 'hallmarklaw11.TidyOrder'. -/
def tidyOrderUptoCard : Claim7 := { stood := { row := tidyOrderUptoRow, standIns := [], harness := (true, "541e92813e5da91c0840f150485b916a371c883e588f63a879757b7dc75ba72f"), looks := false }, kinds := [], alts := [], laidByText := true, laidKinds := [.data, .pinned], laidTests := true, laidLooks := .later }
def TidyOrderUptoCardSaid : Prop := Claim7.holds Tryz.pinned (.plain (OpenSpec.upto tidyOrderSpec)) tidyOrderUptoCard

/-- THE SECOND FORM's CARD OF 'hallmarklaw11.TidyFresh'. -/
def tidyFreshUptoCard : Claim7 := { stood := { row := tidyFreshUptoRow, standIns := [], harness := (true, "541e92813e5da91c0840f150485b916a371c883e588f63a879757b7dc75ba72f"), looks := false }, kinds := [], alts := [], laidByText := true, laidKinds := [.data, .pinned], laidTests := true, laidLooks := .later }
def TidyFreshUptoCardSaid : Prop := Claim7.holds Tryz.pinned (.plain (OpenSpec.upto tidyFreshSpec)) tidyFreshUptoCard
end Rows
end Go.Proofs.YtfilonnphgnplaaGreatDoor
