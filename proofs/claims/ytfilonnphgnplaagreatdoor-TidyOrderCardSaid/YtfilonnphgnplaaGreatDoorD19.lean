/- Part 19. -/
import Derived.Test.YtfilonnphgnplaaGreatDoorTie
import Derived.Test.YtfilonnphgnplaaGreatDoorCards
import Derived.WalkKit
import Derived.ProofKit
import Derived.Lay
import Derived.LaidOnce
import Derived.SevenTiedAt
set_option linter.unusedSimpArgs false
set_option linter.unusedVariables false
namespace Go.Proofs.YtfilonnphgnplaaGreatDoor
open Go Go.ChangeShapes Go.WideShapes Go.ChangeAt Go.RowKit
theorem tf_inPlace:(Rows.tidyOrderRow.inPlace == Tryz.checked.prog.inPlace 9)=true:=by kernel_rfl
theorem tf_unf:(Rows.tidyOrderRow.unfollowed == Tryz.checked.prog.unfollowed 9)=true:=by kernel_rfl
theorem tf_rec:(Rows.tidyOrderRow.recurses == Tryz.checked.prog.recurses 9)=true:=by kernel_rfl
theorem tf_vn:(Rows.tidyOrderRow.named == Tryz.checked.prog.varsNamed 9)=true:=by kernel_rfl
theorem tf_lifts:(Rows.tidyOrderRow.lifted == Tryz.checked.prog.liftsFinal)=true:=by kernel_rfl
theorem tf_heard:Tryz.checked.prog.stopsHeard=true:=by kernel_rfl
theorem tf_enter:Tryz.checked.prog.mayEnter=true:=by kernel_rfl
theorem tf_mk:(Tryz.checked.prog.make == some Rows.tidyOrderRow.make)=true:=by kernel_rfl
theorem tf_closed:joinedFacts Tryz.checked.prog 9 Tryz.f9 Rows.tidyOrderSpec Rows.tidyOrderRow=true:=by
 unfold joinedFacts
 rw[tf_inPlace,tf_unf,tf_rec,tf_vn,tf_lifts,tf_heard,tf_enter,tf_mk]
 kernel_rfl
theorem tf_named:Tryz.checked.prog.funcNamed Rows.tidyOrderRow.func=some 9:=by kernel_rfl
theorem tf_inst:Tryz.f9.isInstance Tryz.checked.prog Rows.tidyOrderRow.origin Rows.tidyOrderRow.targs:=of_decide_eq_true (by kernel_rfl)
theorem tf_wrap:Tryz.f9.isWrapper Tryz.checked.prog Rows.tidyOrderRow.wrapper Rows.tidyOrderRow.mainSum:=by
 unfold Func.isWrapper
 first|(rw[if_pos (by decide +kernel)]; kernel_rfl)|(rw[if_neg (by decide +kernel)]; exact⟨rfl,rfl⟩)
end Go.Proofs.YtfilonnphgnplaaGreatDoor
