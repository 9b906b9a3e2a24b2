/- 'hallmarklaw13.LatticeUnits': the row. No condition but the card's own. -/
import Derived.Test.YtngjnfbngheccaaGreatDoorTie
import Derived.Test.YtngjnfbngheccaaGreatDoorCards
import Derived.WalkKit
import Derived.ProofKit
import Derived.Lay
import Derived.LaidOnce
import Derived.SevenTiedAt
set_option linter.unusedSimpArgs false
set_option linter.unusedVariables false
namespace Go.Proofs.YtngjnfbngheccaaGreatDoor
open Go Go.ChangeShapes Go.WideShapes Go.ChangeAt Go.RowKit
theorem aIO : (Rows.latticeUnitsUptoRow.inPlace == Tryz.checked.prog.inPlace 3)=true:=by kernel_rfl
theorem aPY : (Rows.latticeUnitsUptoRow.unfollowed == Tryz.checked.prog.unfollowed 3)=true:=by kernel_rfl
theorem aPj : (Rows.latticeUnitsUptoRow.recurses == Tryz.checked.prog.recurses 3)=true:=by kernel_rfl
theorem aQo : (Rows.latticeUnitsUptoRow.named == Tryz.checked.prog.varsNamed 3)=true:=by kernel_rfl
theorem aMX : (Rows.latticeUnitsUptoRow.lifted == Tryz.checked.prog.liftsFinal)=true:=by kernel_rfl
theorem aMs : Tryz.checked.prog.stopsHeard=true:=by kernel_rfl
theorem aMt : Tryz.checked.prog.mayEnter=true:=by kernel_rfl
theorem aQy : (Tryz.checked.prog.make == some Rows.latticeUnitsUptoRow.make)=true:=by kernel_rfl
theorem aLp : joinedFacts Tryz.checked.prog 3 Tryz.f3 (Rows.OpenSpec.upto Rows.latticeUnitsSpec).bare Rows.latticeUnitsUptoRow=true:=by
 unfold joinedFacts
 rw [aIO,aPY,aPj,aQo,aMX,aMs,aMt,aQy]
 kernel_rfl
theorem aL9 : Tryz.checked.prog.funcNamed Rows.latticeUnitsUptoRow.func=some 3:=by kernel_rfl
theorem aO2 : Tryz.f3.isInstance Tryz.checked.prog Rows.latticeUnitsUptoRow.origin Rows.latticeUnitsUptoRow.targs:=of_decide_eq_true (by kernel_rfl)
theorem aOd : Tryz.f3.isWrapper Tryz.checked.prog Rows.latticeUnitsUptoRow.wrapper Rows.latticeUnitsUptoRow.mainSum:=by
 unfold Func.isWrapper
 first | (rw [if_pos (by decide +kernel)]; kernel_rfl) | (rw [if_neg (by decide +kernel)]; exact ⟨rfl,rfl⟩)
end Go.Proofs.YtngjnfbngheccaaGreatDoor
