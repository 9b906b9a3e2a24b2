/- 'hallmarklaw11.TidyAnswers': the row. No condition but the card's own. -/
import Derived.Test.YtfilonnphgnplaaGreatDoorTie
import Derived.Test.YtfilonnphgnplaaGreatDoorCards
import Derived.WalkKit
import Derived.ProofKit
import Derived.Lay
import Derived.LaidOnce
import Derived.SevenTiedAt
set_option linter.unusedSimpArgs false
set_option linter.unusedVariables false
namespace Go.Proofs.YtfilonnphgnplaaGreatDoor
open Go Go.ChangeShapes Go.WideShapes Go.ChangeAt Go.RowKit
theorem aGb : (Rows.tidyAnswersRow.inPlace == Tryz.checked.prog.inPlace 3)=true:=by kernel_rfl
theorem aMy : (Rows.tidyAnswersRow.unfollowed == Tryz.checked.prog.unfollowed 3)=true:=by kernel_rfl
theorem aMg : (Rows.tidyAnswersRow.recurses == Tryz.checked.prog.recurses 3)=true:=by kernel_rfl
theorem aNa : (Rows.tidyAnswersRow.named == Tryz.checked.prog.varsNamed 3)=true:=by kernel_rfl
theorem aJs : (Rows.tidyAnswersRow.lifted == Tryz.checked.prog.liftsFinal)=true:=by kernel_rfl
theorem aKg : Tryz.checked.prog.stopsHeard=true:=by kernel_rfl
theorem aJK : Tryz.checked.prog.mayEnter=true:=by kernel_rfl
theorem aNm : (Tryz.checked.prog.make == some Rows.tidyAnswersRow.make)=true:=by kernel_rfl
theorem aIB : joinedFacts Tryz.checked.prog 3 Tryz.f3 Rows.tidyAnswersSpec Rows.tidyAnswersRow=true:=by
 unfold joinedFacts
 rw [aGb,aMy,aMg,aNa,aJs,aKg,aJK,aNm]
 kernel_rfl
theorem aJi : Tryz.checked.prog.funcNamed Rows.tidyAnswersRow.func=some 3:=by kernel_rfl
theorem aLm : Tryz.f3.isInstance Tryz.checked.prog Rows.tidyAnswersRow.origin Rows.tidyAnswersRow.targs:=of_decide_eq_true (by kernel_rfl)
theorem aL1 : Tryz.f3.isWrapper Tryz.checked.prog Rows.tidyAnswersRow.wrapper Rows.tidyAnswersRow.mainSum:=by
 unfold Func.isWrapper
 first | (rw [if_pos (by decide +kernel)]; kernel_rfl) | (rw [if_neg (by decide +kernel)]; exact ⟨rfl,rfl⟩)
end Go.Proofs.YtfilonnphgnplaaGreatDoor
