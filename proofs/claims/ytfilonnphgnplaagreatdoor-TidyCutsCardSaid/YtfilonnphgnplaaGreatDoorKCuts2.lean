/- 'hallmarklaw11.TidyCuts': the row. No condition but the card's own. -/
import Derived.Test.YtfilonnphgnplaaGreatDoorTie
import Derived.Test.YtfilonnphgnplaaGreatDoorCards
import Derived.WalkKit
import Derived.ProofKit
import Derived.Lay
import Derived.LaidOnce
import Derived.SevenTiedAt
set_option linter.unusedSimpArgs false
set_option linter.unusedVariables false
namespace Go.Proofs.YtfilonnphgnplaaGreatDoor
open Go Go.ChangeShapes Go.WideShapes Go.ChangeAt Go.RowKit
theorem tf_inPlace : (Rows.tidyCutsRow.inPlace == Tryz.checked.prog.inPlace 8)=true:=by kernel_rfl
theorem tf_unf : (Rows.tidyCutsRow.unfollowed == Tryz.checked.prog.unfollowed 8)=true:=by kernel_rfl
theorem tf_rec : (Rows.tidyCutsRow.recurses == Tryz.checked.prog.recurses 8)=true:=by kernel_rfl
theorem tf_vn : (Rows.tidyCutsRow.named == Tryz.checked.prog.varsNamed 8)=true:=by kernel_rfl
theorem tf_lifts : (Rows.tidyCutsRow.lifted == Tryz.checked.prog.liftsFinal)=true:=by kernel_rfl
theorem tf_heard : Tryz.checked.prog.stopsHeard=true:=by kernel_rfl
theorem tf_enter : Tryz.checked.prog.mayEnter=true:=by kernel_rfl
theorem tf_mk : (Tryz.checked.prog.make == some Rows.tidyCutsRow.make)=true:=by kernel_rfl
theorem tf_closed : joinedFacts Tryz.checked.prog 8 Tryz.f8 Rows.tidyCutsSpec Rows.tidyCutsRow=true:=by
 unfold joinedFacts
 rw [tf_inPlace,tf_unf,tf_rec,tf_vn,tf_lifts,tf_heard,tf_enter,tf_mk]
 kernel_rfl
theorem tf_named : Tryz.checked.prog.funcNamed Rows.tidyCutsRow.func=some 8:=by kernel_rfl
theorem tf_inst : Tryz.f8.isInstance Tryz.checked.prog Rows.tidyCutsRow.origin Rows.tidyCutsRow.targs:=of_decide_eq_true (by kernel_rfl)
theorem tf_wrap : Tryz.f8.isWrapper Tryz.checked.prog Rows.tidyCutsRow.wrapper Rows.tidyCutsRow.mainSum:=by
 unfold Func.isWrapper
 first | (rw [if_pos (by decide +kernel)]; kernel_rfl) | (rw [if_neg (by decide +kernel)]; exact ⟨rfl,rfl⟩)
end Go.Proofs.YtfilonnphgnplaaGreatDoor
