/- 'hallmarklaw13.LatticeUnits': facts of the tied card. No condition but the card's own: the listed tables hold what the program's text lays. -/
import Derived.Test.YtngjnfbngheccaaGreatDoorTie
import Derived.Test.YtngjnfbngheccaaGreatDoorCards
import Derived.WalkKit
import Derived.ProofKit
import Derived.Lay
import Derived.LaidOnce
import Derived.SevenTiedAt
set_option linter.unusedSimpArgs false
set_option linter.unusedVariables false
namespace Go.Proofs.YtngjnfbngheccaaGreatDoor
open Go Go.ChangeShapes Go.WideShapes Go.ChangeAt Go.RowKit
theorem aQt : Rows.latticeUnitsUptoRow.wfByText (Rows.OpenSpec.upto Rows.latticeUnitsSpec)=true:=by kernel_rfl
theorem aN8 : Tryz.checked.prog.mainIs=some (true, "d470939f4166467f5387314b941ebc3b2e6527d6cd16541298b3547d7a535cf5".toList):=by kernel_rfl
theorem aMn : Tryz.prog.funcNamed "hallmark/hallmarklaw13.LatticeUnits" = some 3:=by kernel_rfl
theorem aLK : Tryz.f3.params.toList=[27]:=by kernel_rfl
theorem aNv : false=Tryz.checked.prog.looks []:=by kernel_rfl
theorem aMH : ([27].all fun u=>!Tryz.prog.wantsStandIn u)=true:=by kernel_rfl
theorem aOy : false=Rows.latticeUnitsUptoRow.goesBy Tryz.checked.prog:=by kernel_rfl
end Go.Proofs.YtngjnfbngheccaaGreatDoor
