/- Part 20. -/
import Derived.Test.YtfilonnphgnplaaGreatDoorTie
import Derived.Test.YtfilonnphgnplaaGreatDoorCards
import Derived.WalkKit
import Derived.ProofKit
import Derived.Lay
import Derived.LaidOnce
import Derived.SevenTiedAt
set_option linter.unusedSimpArgs false
set_option linter.unusedVariables false
namespace Go.Proofs.YtfilonnphgnplaaGreatDoor
open Go Go.ChangeShapes Go.WideShapes Go.ChangeAt Go.RowKit
theorem tf_inPlace:(Rows.tidyFormsRow.inPlace == Tryz.checked.prog.inPlace 4)=true:=by kernel_rfl
theorem tf_unf:(Rows.tidyFormsRow.unfollowed == Tryz.checked.prog.unfollowed 4)=true:=by kernel_rfl
theorem tf_rec:(Rows.tidyFormsRow.recurses == Tryz.checked.prog.recurses 4)=true:=by kernel_rfl
theorem tf_vn:(Rows.tidyFormsRow.named == Tryz.checked.prog.varsNamed 4)=true:=by kernel_rfl
theorem tf_lifts:(Rows.tidyFormsRow.lifted == Tryz.checked.prog.liftsFinal)=true:=by kernel_rfl
theorem tf_heard:Tryz.checked.prog.stopsHeard=true:=by kernel_rfl
theorem tf_enter:Tryz.checked.prog.mayEnter=true:=by kernel_rfl
theorem tf_mk:(Tryz.checked.prog.make == some Rows.tidyFormsRow.make)=true:=by kernel_rfl
theorem tf_closed:joinedFacts Tryz.checked.prog 4 Tryz.f4 Rows.tidyFormsSpec Rows.tidyFormsRow=true:=by
 unfold joinedFacts
 rw[tf_inPlace,tf_unf,tf_rec,tf_vn,tf_lifts,tf_heard,tf_enter,tf_mk]
 kernel_rfl
theorem tf_named:Tryz.checked.prog.funcNamed Rows.tidyFormsRow.func=some 4:=by kernel_rfl
theorem tf_inst:Tryz.f4.isInstance Tryz.checked.prog Rows.tidyFormsRow.origin Rows.tidyFormsRow.targs:=of_decide_eq_true (by kernel_rfl)
theorem tf_wrap:Tryz.f4.isWrapper Tryz.checked.prog Rows.tidyFormsRow.wrapper Rows.tidyFormsRow.mainSum:=by
 unfold Func.isWrapper
 first|(rw[if_pos (by decide +kernel)]; kernel_rfl)|(rw[if_neg (by decide +kernel)]; exact⟨rfl,rfl⟩)
end Go.Proofs.YtfilonnphgnplaaGreatDoor
