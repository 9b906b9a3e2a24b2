/- 'hallmarklaw26.RulesNever' returns true: the row and its tied card. No condition but the card's own: the listed tables hold what the program's text lays. -/
import Derived.Test.YtbdogkmdanmojaaGreatDoorKNever1
import Derived.Test.YtbdogkmdanmojaaGreatDoorKNever2
import Derived.Test.YtbdogkmdanmojaaGreatDoorKNever4
import Derived.Test.YtbdogkmdanmojaaGreatDoorTie
import Derived.Test.YtbdogkmdanmojaaGreatDoorCards
import Derived.WalkKit
import Derived.ProofKit
import Derived.Lay
import Derived.LaidOnce
import Derived.SevenTiedAt
set_option linter.unusedSimpArgs false
set_option linter.unusedVariables false
namespace Go.Proofs.YtbdogkmdanmojaaGreatDoor
open Go Go.ChangeShapes Go.WideShapes Go.ChangeAt Go.RowKit
theorem rulesNever_holds : Rows.RulesNeverSaid :=
 OpenClaim.holds_of_wide 3 Tryz.f3 rfl rfl rfl rfl rfl rfl rfl ⟨rfl,rfl,rfl,rfl,rfl⟩ rfl rfl rfl rfl rfl tf_named Tryz.func3 tf_closed tf_inst tf_wrap
  (fun os started H enc _=>lifted os started H enc)
theorem rulesNever_card : Rows.RulesNeverCardSaid :=
 Claim7.holds_tied_plain_at .later [] [.pinned,.data,.data,.data,.data,.sentinel,.sentinel] true (true, "14cd69eaef8c2fe7a9532345b67ce0419f31b4d1ca6bda4bfa71d49e94a7e3fc") true rulesNever_holds (fun _ h=>by cases h) tc_wf (fun _ h=>by cases h) rulesNever_row_tie rfl ⟨rfl,rfl⟩ tc_main rfl
  (fun f fn hf hfn=>by
   obtain rfl : f=3:=Option.some.inj (tc_named.symm.trans hf) |>.symm
   obtain rfl : fn=Tryz.f3:=(Option.some.inj (Tryz.func3.symm.trans hfn)).symm
   exact ⟨tc_looks,fun j t ht=>by
    have hm : t ∈ Tryz.f3.params.toList:=by simpa using Array.mem_of_getElem? ht
    rw [tc_params] at hm
    exact (show Tryz.prog.wantsStandIn t=false by simpa using List.all_eq_true.1 tc_stand t hm)⟩)
  tc_goes
#print axioms rulesNever_card
end Go.Proofs.YtbdogkmdanmojaaGreatDoor
