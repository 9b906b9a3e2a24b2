/- 'hallmarklaw21.PrimTexts': facts of the tied card. No condition but the card's own: the listed tables hold what the program's text lays. -/
import Derived.Test.YtnlfgnelfooljaaGreatDoorTie
import Derived.Test.YtnlfgnelfooljaaGreatDoorCards
import Derived.WalkKit
import Derived.ProofKit
import Derived.Lay
import Derived.LaidOnce
import Derived.SevenTiedAt
set_option linter.unusedSimpArgs false
set_option linter.unusedVariables false
namespace Go.Proofs.YtnlfgnelfooljaaGreatDoor
open Go Go.ChangeShapes Go.WideShapes Go.ChangeAt Go.RowKit
theorem tc_wf : Rows.primTextsRow.wfByText (OpenSpec.ofChange Rows.primTextsSpec)=true:=by kernel_rfl
theorem tc_main : Tryz.checked.prog.mainIs=some (true, "39a91745c9fb7d7e798195b83356dee6b4fae3cc1058acf9956df1ca4a06f4b8".toList):=by kernel_rfl
theorem tc_named : Tryz.prog.funcNamed "hallmark/hallmarklaw21.PrimTexts" = some 3:=by kernel_rfl
theorem tc_params : Tryz.f3.params.toList=[9,9]:=by kernel_rfl
theorem tc_looks : true=Tryz.checked.prog.looks []:=by kernel_rfl
theorem tc_stand : ([9,9].all fun u=>!Tryz.prog.wantsStandIn u)=true:=by kernel_rfl
theorem tc_goes : false=Rows.primTextsRow.goesBy Tryz.checked.prog:=by kernel_rfl
end Go.Proofs.YtnlfgnelfooljaaGreatDoor
