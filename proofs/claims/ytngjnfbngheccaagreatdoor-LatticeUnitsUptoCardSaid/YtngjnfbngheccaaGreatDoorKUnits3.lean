/- 'hallmarklaw13.LatticeUnits' returns true where what it reads is of bulk at most 1048576: the row and its tied card. No condition but the card's own: the listed tables hold what the program's text lays. -/
import Derived.Test.YtngjnfbngheccaaGreatDoorKUnits1
import Derived.Test.YtngjnfbngheccaaGreatDoorKUnits2
import Derived.Test.YtngjnfbngheccaaGreatDoorKUnits4
import Derived.Test.YtngjnfbngheccaaGreatDoorTie
import Derived.Test.YtngjnfbngheccaaGreatDoorCards
import Derived.WalkKit
import Derived.ProofKit
import Derived.Lay
import Derived.LaidOnce
import Derived.SevenTiedAt
import Derived.JoinedCond
import Derived.Stop.Joined
set_option linter.unusedSimpArgs false
set_option linter.unusedVariables false
namespace Go.Proofs.YtngjnfbngheccaaGreatDoor
open Go Go.ChangeShapes Go.WideShapes Go.ChangeAt Go.RowKit
theorem apa : Rows.LatticeUnitsUptoSaid :=
 OpenClaim.holds_of_cond 3 Tryz.f3 rfl rfl rfl rfl rfl rfl rfl ⟨rfl,rfl,rfl,rfl,rfl⟩ rfl rfl rfl rfl rfl aL9 Tryz.func3 aLp aO2 aOd
  (fun os started H enc _ F=>by rw [OpenClaim.pre_eq_preRow]; exact lifted os started H enc F)
theorem latticeUnits_card : Rows.LatticeUnitsUptoCardSaid :=
 Claim7.holds_tied_plain_at .later [] [.data,.pinned] true (true, "d470939f4166467f5387314b941ebc3b2e6527d6cd16541298b3547d7a535cf5") false apa (fun _ h=>by cases h) aQt (fun _ h=>by cases h) latticeUnitsUpto_row_tie rfl ⟨rfl,rfl⟩ aN8 rfl
  (fun f fn hf hfn=>by
   obtain rfl : f=3:=Option.some.inj (aMn.symm.trans hf) |>.symm
   obtain rfl : fn=Tryz.f3:=(Option.some.inj (Tryz.func3.symm.trans hfn)).symm
   exact ⟨aNv,fun j t ht=>by
    have hm : t ∈ Tryz.f3.params.toList:=by simpa using Array.mem_of_getElem? ht
    rw [aLK] at hm
    exact (show Tryz.prog.wantsStandIn t=false by simpa using List.all_eq_true.1 aMH t hm)⟩)
  aOy
#print axioms latticeUnits_card
end Go.Proofs.YtngjnfbngheccaaGreatDoor
