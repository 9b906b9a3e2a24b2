/- 'hallmarklaw11.TidyOnes' returns true where what it reads is of bulk at most 1048576: the row and its tied card. No condition but the card's own: the listed tables hold what the program's text lays. -/
import Derived.Test.YtfilonnphgnplaaGreatDoorKOnes1
import Derived.Test.YtfilonnphgnplaaGreatDoorKOnes2
import Derived.Test.YtfilonnphgnplaaGreatDoorKOnes4
import Derived.Test.YtfilonnphgnplaaGreatDoorTie
import Derived.Test.YtfilonnphgnplaaGreatDoorCards
import Derived.WalkKit
import Derived.ProofKit
import Derived.Lay
import Derived.LaidOnce
import Derived.SevenTiedAt
import Derived.JoinedCond
import Derived.Stop.Joined
set_option linter.unusedSimpArgs false
set_option linter.unusedVariables false
namespace Go.Proofs.YtfilonnphgnplaaGreatDoor
open Go Go.ChangeShapes Go.WideShapes Go.ChangeAt Go.RowKit
theorem tidyOnes_holds : Rows.TidyOnesUptoSaid :=
 OpenClaim.holds_of_cond 7 Tryz.f7 rfl rfl rfl rfl rfl rfl rfl ⟨rfl,rfl,rfl,rfl,rfl⟩ rfl rfl rfl rfl rfl tf_named Tryz.func7 tf_closed tf_inst tf_wrap
  (fun os started H enc _ F=>by rw [OpenClaim.pre_eq_preRow]; exact lifted os started H enc F)
theorem tidyOnes_card : Rows.TidyOnesUptoCardSaid :=
 Claim7.holds_tied_plain_at .later [] [.data,.pinned] true (true, "541e92813e5da91c0840f150485b916a371c883e588f63a879757b7dc75ba72f") false tidyOnes_holds (fun _ h=>by cases h) tc_wf (fun _ h=>by cases h) tidyOnesUpto_row_tie rfl ⟨rfl,rfl⟩ tc_main rfl
  (fun f fn hf hfn=>by
   obtain rfl : f=7:=Option.some.inj (tc_named.symm.trans hf) |>.symm
   obtain rfl : fn=Tryz.f7:=(Option.some.inj (Tryz.func7.symm.trans hfn)).symm
   exact ⟨tc_looks,fun j t ht=>by
    have hm : t ∈ Tryz.f7.params.toList:=by simpa using Array.mem_of_getElem? ht
    rw [tc_params] at hm
    exact (show Tryz.prog.wantsStandIn t=false by simpa using List.all_eq_true.1 tc_stand t hm)⟩)
  tc_goes
#print axioms tidyOnes_card
end Go.Proofs.YtfilonnphgnplaaGreatDoor
