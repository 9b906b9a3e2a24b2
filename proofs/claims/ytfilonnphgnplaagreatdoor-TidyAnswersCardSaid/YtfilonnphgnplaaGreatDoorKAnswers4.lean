/- 'hallmarklaw11.TidyAnswers': facts of the tied card. No condition but the card's own: the listed tables hold what the program's text lays. -/
import Derived.Test.YtfilonnphgnplaaGreatDoorTie
import Derived.Test.YtfilonnphgnplaaGreatDoorCards
import Derived.WalkKit
import Derived.ProofKit
import Derived.Lay
import Derived.LaidOnce
import Derived.SevenTiedAt
set_option linter.unusedSimpArgs false
set_option linter.unusedVariables false
namespace Go.Proofs.YtfilonnphgnplaaGreatDoor
open Go Go.ChangeShapes Go.WideShapes Go.ChangeAt Go.RowKit
theorem aNf : Rows.tidyAnswersRow.wfByText (OpenSpec.ofChange Rows.tidyAnswersSpec)=true:=by kernel_rfl
theorem aKU : Tryz.checked.prog.mainIs=some (true, "541e92813e5da91c0840f150485b916a371c883e588f63a879757b7dc75ba72f".toList):=by kernel_rfl
theorem aJf : Tryz.prog.funcNamed "hallmark/hallmarklaw11.TidyAnswers" = some 3:=by kernel_rfl
theorem aIp : Tryz.f3.params.toList=[22]:=by kernel_rfl
theorem aIZ : false=Tryz.checked.prog.looks []:=by kernel_rfl
theorem aJ5 : ([22].all fun u=>!Tryz.prog.wantsStandIn u)=true:=by kernel_rfl
theorem aK9 : false=Rows.tidyAnswersRow.goesBy Tryz.checked.prog:=by kernel_rfl
end Go.Proofs.YtfilonnphgnplaaGreatDoor
