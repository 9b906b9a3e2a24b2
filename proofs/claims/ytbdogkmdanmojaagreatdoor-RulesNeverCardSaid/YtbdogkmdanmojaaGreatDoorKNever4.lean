/- 'hallmarklaw26.RulesNever': facts of the tied card. No condition but the card's own: the listed tables hold what the program's text lays. -/
import Derived.Test.YtbdogkmdanmojaaGreatDoorTie
import Derived.Test.YtbdogkmdanmojaaGreatDoorCards
import Derived.WalkKit
import Derived.ProofKit
import Derived.Lay
import Derived.LaidOnce
import Derived.SevenTiedAt
set_option linter.unusedSimpArgs false
set_option linter.unusedVariables false
namespace Go.Proofs.YtbdogkmdanmojaaGreatDoor
open Go Go.ChangeShapes Go.WideShapes Go.ChangeAt Go.RowKit
theorem tc_wf : Rows.rulesNeverRow.wfByText (OpenSpec.ofChange Rows.rulesNeverSpec)=true:=by kernel_rfl
theorem tc_main : Tryz.checked.prog.mainIs=some (true, "14cd69eaef8c2fe7a9532345b67ce0419f31b4d1ca6bda4bfa71d49e94a7e3fc".toList):=by kernel_rfl
theorem tc_named : Tryz.prog.funcNamed "hallmark/hallmarklaw26.RulesNever" = some 3:=by kernel_rfl
theorem tc_params : Tryz.f3.params.toList=[29]:=by kernel_rfl
theorem tc_looks : true=Tryz.checked.prog.looks []:=by kernel_rfl
theorem tc_stand : ([29].all fun u=>!Tryz.prog.wantsStandIn u)=true:=by kernel_rfl
theorem tc_goes : false=Rows.rulesNeverRow.goesBy Tryz.checked.prog:=by kernel_rfl
end Go.Proofs.YtbdogkmdanmojaaGreatDoor
