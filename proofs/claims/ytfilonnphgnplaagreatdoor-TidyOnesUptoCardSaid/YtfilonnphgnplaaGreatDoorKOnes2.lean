/- 'hallmarklaw11.TidyOnes': the row. No condition but the card's own. -/
import Derived.Test.YtfilonnphgnplaaGreatDoorTie
import Derived.Test.YtfilonnphgnplaaGreatDoorCards
import Derived.WalkKit
import Derived.ProofKit
import Derived.Lay
import Derived.LaidOnce
import Derived.SevenTiedAt
set_option linter.unusedSimpArgs false
set_option linter.unusedVariables false
namespace Go.Proofs.YtfilonnphgnplaaGreatDoor
open Go Go.ChangeShapes Go.WideShapes Go.ChangeAt Go.RowKit
theorem tf_inPlace : (Rows.tidyOnesUptoRow.inPlace == Tryz.checked.prog.inPlace 7)=true:=by kernel_rfl
theorem tf_unf : (Rows.tidyOnesUptoRow.unfollowed == Tryz.checked.prog.unfollowed 7)=true:=by kernel_rfl
theorem tf_rec : (Rows.tidyOnesUptoRow.recurses == Tryz.checked.prog.recurses 7)=true:=by kernel_rfl
theorem tf_vn : (Rows.tidyOnesUptoRow.named == Tryz.checked.prog.varsNamed 7)=true:=by kernel_rfl
theorem tf_lifts : (Rows.tidyOnesUptoRow.lifted == Tryz.checked.prog.liftsFinal)=true:=by kernel_rfl
theorem tf_heard : Tryz.checked.prog.stopsHeard=true:=by kernel_rfl
theorem tf_enter : Tryz.checked.prog.mayEnter=true:=by kernel_rfl
theorem tf_mk : (Tryz.checked.prog.make == some Rows.tidyOnesUptoRow.make)=true:=by kernel_rfl
theorem tf_closed : joinedFacts Tryz.checked.prog 7 Tryz.f7 (Rows.OpenSpec.upto Rows.tidyOnesSpec).bare Rows.tidyOnesUptoRow=true:=by
 unfold joinedFacts
 rw [tf_inPlace,tf_unf,tf_rec,tf_vn,tf_lifts,tf_heard,tf_enter,tf_mk]
 kernel_rfl
theorem tf_named : Tryz.checked.prog.funcNamed Rows.tidyOnesUptoRow.func=some 7:=by kernel_rfl
theorem tf_inst : Tryz.f7.isInstance Tryz.checked.prog Rows.tidyOnesUptoRow.origin Rows.tidyOnesUptoRow.targs:=of_decide_eq_true (by kernel_rfl)
theorem tf_wrap : Tryz.f7.isWrapper Tryz.checked.prog Rows.tidyOnesUptoRow.wrapper Rows.tidyOnesUptoRow.mainSum:=by
 unfold Func.isWrapper
 first | (rw [if_pos (by decide +kernel)]; kernel_rfl) | (rw [if_neg (by decide +kernel)]; exact ⟨rfl,rfl⟩)
end Go.Proofs.YtfilonnphgnplaaGreatDoor
