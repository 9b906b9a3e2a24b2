/- 'hallmarklaw11.TidySums': the row. No condition but the card's own. -/
import Derived.Test.YtfilonnphgnplaaGreatDoorTie
import Derived.Test.YtfilonnphgnplaaGreatDoorCards
import Derived.WalkKit
import Derived.ProofKit
import Derived.Lay
import Derived.LaidOnce
import Derived.SevenTiedAt
set_option linter.unusedSimpArgs false
set_option linter.unusedVariables false
namespace Go.Proofs.YtfilonnphgnplaaGreatDoor
open Go Go.ChangeShapes Go.WideShapes Go.ChangeAt Go.RowKit
theorem tf_inPlace : (Rows.tidySumsRow.inPlace == Tryz.checked.prog.inPlace 6)=true:=by kernel_rfl
theorem tf_unf : (Rows.tidySumsRow.unfollowed == Tryz.checked.prog.unfollowed 6)=true:=by kernel_rfl
theorem tf_rec : (Rows.tidySumsRow.recurses == Tryz.checked.prog.recurses 6)=true:=by kernel_rfl
theorem tf_vn : (Rows.tidySumsRow.named == Tryz.checked.prog.varsNamed 6)=true:=by kernel_rfl
theorem tf_lifts : (Rows.tidySumsRow.lifted == Tryz.checked.prog.liftsFinal)=true:=by kernel_rfl
theorem tf_heard : Tryz.checked.prog.stopsHeard=true:=by kernel_rfl
theorem tf_enter : Tryz.checked.prog.mayEnter=true:=by kernel_rfl
theorem tf_mk : (Tryz.checked.prog.make == some Rows.tidySumsRow.make)=true:=by kernel_rfl
theorem tf_closed : joinedFacts Tryz.checked.prog 6 Tryz.f6 Rows.tidySumsSpec Rows.tidySumsRow=true:=by
 unfold joinedFacts
 rw [tf_inPlace,tf_unf,tf_rec,tf_vn,tf_lifts,tf_heard,tf_enter,tf_mk]
 kernel_rfl
theorem tf_named : Tryz.checked.prog.funcNamed Rows.tidySumsRow.func=some 6:=by kernel_rfl
theorem tf_inst : Tryz.f6.isInstance Tryz.checked.prog Rows.tidySumsRow.origin Rows.tidySumsRow.targs:=of_decide_eq_true (by kernel_rfl)
theorem tf_wrap : Tryz.f6.isWrapper Tryz.checked.prog Rows.tidySumsRow.wrapper Rows.tidySumsRow.mainSum:=by
 unfold Func.isWrapper
 first | (rw [if_pos (by decide +kernel)]; kernel_rfl) | (rw [if_neg (by decide +kernel)]; exact ⟨rfl,rfl⟩)
end Go.Proofs.YtfilonnphgnplaaGreatDoor
