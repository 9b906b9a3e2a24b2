/- 'hallmarklaw26.RulesNever': the row. No condition but the card's own. -/
import Derived.Test.YtbdogkmdanmojaaGreatDoorTie
import Derived.Test.YtbdogkmdanmojaaGreatDoorCards
import Derived.WalkKit
import Derived.ProofKit
import Derived.Lay
import Derived.LaidOnce
import Derived.SevenTiedAt
set_option linter.unusedSimpArgs false
set_option linter.unusedVariables false
namespace Go.Proofs.YtbdogkmdanmojaaGreatDoor
open Go Go.ChangeShapes Go.WideShapes Go.ChangeAt Go.RowKit
theorem tf_inPlace : (Rows.rulesNeverRow.inPlace == Tryz.checked.prog.inPlace 3)=true:=by kernel_rfl
theorem tf_unf : (Rows.rulesNeverRow.unfollowed == Tryz.checked.prog.unfollowed 3)=true:=by kernel_rfl
theorem tf_rec : (Rows.rulesNeverRow.recurses == Tryz.checked.prog.recurses 3)=true:=by kernel_rfl
theorem tf_vn : (Rows.rulesNeverRow.named == Tryz.checked.prog.varsNamed 3)=true:=by kernel_rfl
theorem tf_lifts : (Rows.rulesNeverRow.lifted == Tryz.checked.prog.liftsFinal)=true:=by kernel_rfl
theorem tf_heard : Tryz.checked.prog.stopsHeard=true:=by kernel_rfl
theorem tf_enter : Tryz.checked.prog.mayEnter=true:=by kernel_rfl
theorem tf_mk : (Tryz.checked.prog.make == some Rows.rulesNeverRow.make)=true:=by kernel_rfl
theorem tf_closed : joinedFacts Tryz.checked.prog 3 Tryz.f3 Rows.rulesNeverSpec Rows.rulesNeverRow=true:=by
 unfold joinedFacts
 rw [tf_inPlace,tf_unf,tf_rec,tf_vn,tf_lifts,tf_heard,tf_enter,tf_mk]
 kernel_rfl
theorem tf_named : Tryz.checked.prog.funcNamed Rows.rulesNeverRow.func=some 3:=by kernel_rfl
theorem tf_inst : Tryz.f3.isInstance Tryz.checked.prog Rows.rulesNeverRow.origin Rows.rulesNeverRow.targs:=of_decide_eq_true (by kernel_rfl)
theorem tf_wrap : Tryz.f3.isWrapper Tryz.checked.prog Rows.rulesNeverRow.wrapper Rows.rulesNeverRow.mainSum:=by
 unfold Func.isWrapper
 first | (rw [if_pos (by decide +kernel)]; kernel_rfl) | (rw [if_neg (by decide +kernel)]; exact ⟨rfl,rfl⟩)
end Go.Proofs.YtbdogkmdanmojaaGreatDoor
