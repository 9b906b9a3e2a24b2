/- 'hallmarklaw11.TidyCuts': facts of the tied card. No condition but the card's own: the listed tables hold what the program's text lays. -/
import Derived.Test.YtfilonnphgnplaaGreatDoorTie
import Derived.Test.YtfilonnphgnplaaGreatDoorCards
import Derived.WalkKit
import Derived.ProofKit
import Derived.Lay
import Derived.LaidOnce
import Derived.SevenTiedAt
set_option linter.unusedSimpArgs false
set_option linter.unusedVariables false
namespace Go.Proofs.YtfilonnphgnplaaGreatDoor
open Go Go.ChangeShapes Go.WideShapes Go.ChangeAt Go.RowKit
theorem tc_wf : Rows.tidyCutsRow.wfByText (OpenSpec.ofChange Rows.tidyCutsSpec)=true:=by kernel_rfl
theorem tc_main : Tryz.checked.prog.mainIs=some (true, "541e92813e5da91c0840f150485b916a371c883e588f63a879757b7dc75ba72f".toList):=by kernel_rfl
theorem tc_named : Tryz.prog.funcNamed "hallmark/hallmarklaw11.TidyCuts" = some 8:=by kernel_rfl
theorem tc_params : Tryz.f8.params.toList=[30,3,38]:=by kernel_rfl
theorem tc_looks : false=Tryz.checked.prog.looks []:=by kernel_rfl
theorem tc_stand : ([30,3,38].all fun u=>!Tryz.prog.wantsStandIn u)=true:=by kernel_rfl
theorem tc_goes : false=Rows.tidyCutsRow.goesBy Tryz.checked.prog:=by kernel_rfl
end Go.Proofs.YtfilonnphgnplaaGreatDoor
