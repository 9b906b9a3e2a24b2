/- 'hallmarklaw21.PrimNames': facts of the tied card. No condition but the card's own: the listed tables hold what the program's text lays. -/
import Derived.Test.YtjipnamfdmllmaaGreatDoorTie
import Derived.Test.YtjipnamfdmllmaaGreatDoorCards
import Derived.WalkKit
import Derived.ProofKit
import Derived.Lay
import Derived.LaidOnce
import Derived.SevenTiedAt
set_option linter.unusedSimpArgs false
set_option linter.unusedVariables false
namespace Go.Proofs.YtjipnamfdmllmaaGreatDoor
open Go Go.ChangeShapes Go.WideShapes Go.ChangeAt Go.RowKit
theorem tc_wf : Rows.primNamesRow.wfByText (OpenSpec.ofChange Rows.primNamesSpec)=true:=by kernel_rfl
theorem tc_main : Tryz.checked.prog.mainIs=some (true, "e25de1bd31daf99def3330d08f3170902ae2e85d17b164368ba9761d8cc18898".toList):=by kernel_rfl
theorem tc_named : Tryz.prog.funcNamed "hallmark/hallmarklaw21.PrimNames" = some 3:=by kernel_rfl
theorem tc_params : Tryz.f3.params.toList=[9,3]:=by kernel_rfl
theorem tc_looks : true=Tryz.checked.prog.looks []:=by kernel_rfl
theorem tc_stand : ([9,3].all fun u=>!Tryz.prog.wantsStandIn u)=true:=by kernel_rfl
theorem tc_goes : false=Rows.primNamesRow.goesBy Tryz.checked.prog:=by kernel_rfl
end Go.Proofs.YtjipnamfdmllmaaGreatDoor
