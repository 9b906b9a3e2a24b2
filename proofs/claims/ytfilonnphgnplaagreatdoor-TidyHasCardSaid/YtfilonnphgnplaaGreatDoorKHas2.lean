/- 'hallmarklaw11.TidyHas': the row. No condition but the card's own. -/
import Derived.Test.YtfilonnphgnplaaGreatDoorTie
import Derived.Test.YtfilonnphgnplaaGreatDoorCards
import Derived.WalkKit
import Derived.ProofKit
import Derived.Lay
import Derived.LaidOnce
import Derived.SevenTiedAt
set_option linter.unusedSimpArgs false
set_option linter.unusedVariables false
namespace Go.Proofs.YtfilonnphgnplaaGreatDoor
open Go Go.ChangeShapes Go.WideShapes Go.ChangeAt Go.RowKit
theorem tf_inPlace : (Rows.tidyHasRow.inPlace == Tryz.checked.prog.inPlace 5)=true:=by kernel_rfl
theorem tf_unf : (Rows.tidyHasRow.unfollowed == Tryz.checked.prog.unfollowed 5)=true:=by kernel_rfl
theorem tf_rec : (Rows.tidyHasRow.recurses == Tryz.checked.prog.recurses 5)=true:=by kernel_rfl
theorem tf_vn : (Rows.tidyHasRow.named == Tryz.checked.prog.varsNamed 5)=true:=by kernel_rfl
theorem tf_lifts : (Rows.tidyHasRow.lifted == Tryz.checked.prog.liftsFinal)=true:=by kernel_rfl
theorem tf_heard : Tryz.checked.prog.stopsHeard=true:=by kernel_rfl
theorem tf_enter : Tryz.checked.prog.mayEnter=true:=by kernel_rfl
theorem tf_mk : (Tryz.checked.prog.make == some Rows.tidyHasRow.make)=true:=by kernel_rfl
theorem tf_closed : joinedFacts Tryz.checked.prog 5 Tryz.f5 Rows.tidyHasSpec Rows.tidyHasRow=true:=by
 unfold joinedFacts
 rw [tf_inPlace,tf_unf,tf_rec,tf_vn,tf_lifts,tf_heard,tf_enter,tf_mk]
 kernel_rfl
theorem tf_named : Tryz.checked.prog.funcNamed Rows.tidyHasRow.func=some 5:=by kernel_rfl
theorem tf_inst : Tryz.f5.isInstance Tryz.checked.prog Rows.tidyHasRow.origin Rows.tidyHasRow.targs:=of_decide_eq_true (by kernel_rfl)
theorem tf_wrap : Tryz.f5.isWrapper Tryz.checked.prog Rows.tidyHasRow.wrapper Rows.tidyHasRow.mainSum:=by
 unfold Func.isWrapper
 first | (rw [if_pos (by decide +kernel)]; kernel_rfl) | (rw [if_neg (by decide +kernel)]; exact ⟨rfl,rfl⟩)
end Go.Proofs.YtfilonnphgnplaaGreatDoor
