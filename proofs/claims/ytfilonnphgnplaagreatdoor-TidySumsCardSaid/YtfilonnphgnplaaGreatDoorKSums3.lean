/- 'hallmarklaw11.TidySums' returns true: the row and its tied card. No condition but the card's own: the listed tables hold what the program's text lays. -/
import Derived.Test.YtfilonnphgnplaaGreatDoorKSums1
import Derived.Test.YtfilonnphgnplaaGreatDoorKSums2
import Derived.Test.YtfilonnphgnplaaGreatDoorKSums4
import Derived.Test.YtfilonnphgnplaaGreatDoorTie
import Derived.Test.YtfilonnphgnplaaGreatDoorCards
import Derived.WalkKit
import Derived.ProofKit
import Derived.Lay
import Derived.LaidOnce
import Derived.SevenTiedAt
set_option linter.unusedSimpArgs false
set_option linter.unusedVariables false
namespace Go.Proofs.YtfilonnphgnplaaGreatDoor
open Go Go.ChangeShapes Go.WideShapes Go.ChangeAt Go.RowKit
theorem tidySums_holds : Rows.TidySumsSaid :=
 OpenClaim.holds_of_wide 6 Tryz.f6 rfl rfl rfl rfl rfl rfl rfl ⟨rfl,rfl,rfl,rfl,rfl⟩ rfl rfl rfl rfl rfl tf_named Tryz.func6 tf_closed tf_inst tf_wrap
  (fun os started H enc _=>lifted os started H enc)
theorem tidySums_card : Rows.TidySumsCardSaid :=
 Claim7.holds_tied_plain_at .later [] [.data,.pinned] true (true, "541e92813e5da91c0840f150485b916a371c883e588f63a879757b7dc75ba72f") false tidySums_holds (fun _ h=>by cases h) tc_wf (fun _ h=>by cases h) tidySums_row_tie rfl ⟨rfl,rfl⟩ tc_main rfl
  (fun f fn hf hfn=>by
   obtain rfl : f=6:=Option.some.inj (tc_named.symm.trans hf) |>.symm
   obtain rfl : fn=Tryz.f6:=(Option.some.inj (Tryz.func6.symm.trans hfn)).symm
   exact ⟨tc_looks,fun j t ht=>by
    have hm : t ∈ Tryz.f6.params.toList:=by simpa using Array.mem_of_getElem? ht
    rw [tc_params] at hm
    exact (show Tryz.prog.wantsStandIn t=false by simpa using List.all_eq_true.1 tc_stand t hm)⟩)
  tc_goes
#print axioms tidySums_card
end Go.Proofs.YtfilonnphgnplaaGreatDoor
