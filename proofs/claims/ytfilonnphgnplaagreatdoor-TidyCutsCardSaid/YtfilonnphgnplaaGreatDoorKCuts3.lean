/- 'hallmarklaw11.TidyCuts' returns true: the row and its tied card. No condition but the card's own: the listed tables hold what the program's text lays. -/
import Derived.Test.YtfilonnphgnplaaGreatDoorKCuts1
import Derived.Test.YtfilonnphgnplaaGreatDoorKCuts2
import Derived.Test.YtfilonnphgnplaaGreatDoorKCuts4
import Derived.Test.YtfilonnphgnplaaGreatDoorTie
import Derived.Test.YtfilonnphgnplaaGreatDoorCards
import Derived.WalkKit
import Derived.ProofKit
import Derived.Lay
import Derived.LaidOnce
import Derived.SevenTiedAt
set_option linter.unusedSimpArgs false
set_option linter.unusedVariables false
namespace Go.Proofs.YtfilonnphgnplaaGreatDoor
open Go Go.ChangeShapes Go.WideShapes Go.ChangeAt Go.RowKit
theorem tidyCuts_holds : Rows.TidyCutsSaid :=
 OpenClaim.holds_of_wide 8 Tryz.f8 rfl rfl rfl rfl rfl rfl rfl ⟨rfl,rfl,rfl,rfl,rfl⟩ rfl rfl rfl rfl rfl tf_named Tryz.func8 tf_closed tf_inst tf_wrap
  (fun os started H enc _=>lifted os started H enc)
theorem tidyCuts_card : Rows.TidyCutsCardSaid :=
 Claim7.holds_tied_plain_at .later [] [.data,.pinned] true (true, "541e92813e5da91c0840f150485b916a371c883e588f63a879757b7dc75ba72f") false tidyCuts_holds (fun _ h=>by cases h) tc_wf (fun _ h=>by cases h) tidyCuts_row_tie rfl ⟨rfl,rfl⟩ tc_main rfl
  (fun f fn hf hfn=>by
   obtain rfl : f=8:=Option.some.inj (tc_named.symm.trans hf) |>.symm
   obtain rfl : fn=Tryz.f8:=(Option.some.inj (Tryz.func8.symm.trans hfn)).symm
   exact ⟨tc_looks,fun j t ht=>by
    have hm : t ∈ Tryz.f8.params.toList:=by simpa using Array.mem_of_getElem? ht
    rw [tc_params] at hm
    exact (show Tryz.prog.wantsStandIn t=false by simpa using List.all_eq_true.1 tc_stand t hm)⟩)
  tc_goes
#print axioms tidyCuts_card
end Go.Proofs.YtfilonnphgnplaaGreatDoor
