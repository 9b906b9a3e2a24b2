/- 'hallmarklaw11.TidyAnswers' returns true: the row and its tied card. No condition but the card's own: the listed tables hold what the program's text lays. -/
import Derived.Test.YtfilonnphgnplaaGreatDoorKAnswers1
import Derived.Test.YtfilonnphgnplaaGreatDoorKAnswers2
import Derived.Test.YtfilonnphgnplaaGreatDoorKAnswers4
import Derived.Test.YtfilonnphgnplaaGreatDoorTie
import Derived.Test.YtfilonnphgnplaaGreatDoorCards
import Derived.WalkKit
import Derived.ProofKit
import Derived.Lay
import Derived.LaidOnce
import Derived.SevenTiedAt
set_option linter.unusedSimpArgs false
set_option linter.unusedVariables false
namespace Go.Proofs.YtfilonnphgnplaaGreatDoor
open Go Go.ChangeShapes Go.WideShapes Go.ChangeAt Go.RowKit
theorem amd : Rows.TidyAnswersSaid :=
 OpenClaim.holds_of_wide 3 Tryz.f3 rfl rfl rfl rfl rfl rfl rfl ⟨rfl,rfl,rfl,rfl,rfl⟩ rfl rfl rfl rfl rfl aJi Tryz.func3 aIB aLm aL1
  (fun os started H enc _=>lifted os started H enc)
theorem tidyAnswers_card : Rows.TidyAnswersCardSaid :=
 Claim7.holds_tied_plain_at .later [] [.data,.pinned] true (true, "541e92813e5da91c0840f150485b916a371c883e588f63a879757b7dc75ba72f") false amd (fun _ h=>by cases h) aNf (fun _ h=>by cases h) tidyAnswers_row_tie rfl ⟨rfl,rfl⟩ aKU rfl
  (fun f fn hf hfn=>by
   obtain rfl : f=3:=Option.some.inj (aJf.symm.trans hf) |>.symm
   obtain rfl : fn=Tryz.f3:=(Option.some.inj (Tryz.func3.symm.trans hfn)).symm
   exact ⟨aIZ,fun j t ht=>by
    have hm : t ∈ Tryz.f3.params.toList:=by simpa using Array.mem_of_getElem? ht
    rw [aIp] at hm
    exact (show Tryz.prog.wantsStandIn t=false by simpa using List.all_eq_true.1 aJ5 t hm)⟩)
  aK9
#print axioms tidyAnswers_card
end Go.Proofs.YtfilonnphgnplaaGreatDoor
