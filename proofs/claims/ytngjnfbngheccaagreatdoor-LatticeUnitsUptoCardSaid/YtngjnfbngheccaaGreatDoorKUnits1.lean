/- 'hallmarklaw13.LatticeUnits': the call from the row's worlds. No condition but the card's own. -/
import Derived.Test.YtngjnfbngheccaaGreatDoorTie
import Derived.Test.YtngjnfbngheccaaGreatDoorCards
import Derived.Test.YtngjnfbngheccaaGreatDoorU1
import Derived.Test.YtngjnfbngheccaaGreatDoorU4
import Derived.Test.YtngjnfbngheccaaGreatDoorU5
import Derived.Test.YtngjnfbngheccaaGreatDoorU6
import Derived.Test.YtngjnfbngheccaaGreatDoorU9
import Derived.Test.YtngjnfbngheccaaGreatDoorU11
import Derived.Test.YtngjnfbngheccaaGreatDoorU12
import Derived.Test.YtngjnfbngheccaaGreatDoorU13
import Derived.Test.YtngjnfbngheccaaGreatDoorU14
import Derived.Test.YtngjnfbngheccaaGreatDoorU18
import Derived.Test.YtngjnfbngheccaaGreatDoorU19
import Derived.Test.YtngjnfbngheccaaGreatDoorU20
import Derived.WalkKit
import Derived.ProofKit
import Derived.Lay
import Derived.LaidOnce
import Derived.SevenTiedAt
import Derived.Deep.DeepHandedRow
set_option linter.unusedSimpArgs false
set_option linter.unusedVariables false
namespace Go.Proofs.YtngjnfbngheccaaGreatDoor
open Go Go.ChangeShapes Go.WideShapes Go.ChangeAt Go.RowKit
theorem aKt : (Rows.laid_unicode_utf8_acceptRanges : DataW Unit)=Lib.acceptData:=by kernel_rfl
set_option maxRecDepth 100000 in
theorem lifted (os : Os) (started : os.Started) (H : Type) (enc : TypeId × Value→H) (F : Stop.Interp) :
 ReturnsInHanded {} Tryz.checked os 3 .any ((Rows.OpenSpec.upto Rows.latticeUnitsSpec).preRow enc Tryz.prog Tryz.f3 Rows.latticeUnitsUptoRow.domain false Rows.latticeUnitsUptoRow.laid) (((Rows.OpenSpec.upto Rows.latticeUnitsSpec).at F).post enc Tryz.prog Tryz.f3 false true false false):=by
 refine returnsInHanded_of_row (C:=Tryz.checked) (s:=(Rows.OpenSpec.upto Rows.latticeUnitsSpec)) own started (by kernel_rfl) Tryz.func3
  (aNz (enc:=enc) (C:=Tryz.checked) (os:=os) (s:=(Rows.OpenSpec.upto Rows.latticeUnitsSpec)) (World.laidAll Tryz.prog os Rows.latticeUnitsUptoRow.laid) #[.agg #[.bool false,.bool false,.bool false,.bool false,.slice none 0 0,.bool false,.slice none 0 0,.slice none 0 0,.slice none 0 0]] 8 (World.laidAll_os _ _ _)
   (World.shaped_of_ZipB (by kernel_rfl) (by kernel_rfl)) (by kernel_rfl) (by kernel_rfl) rfl (fun k hk=>by cases hk; kernel_rfl) (by kernel_rfl)
   (by rw [MakeChecks.laidMetH_plain _ _ _ (by kernel_rfl)]; exact laidMet_laidAll _ (by kernel_rfl) (by kernel_rfl))) ?_
 intro W base args ds gs before hval0 hW _ hcond hsz hL _ _
 have hval : ∀ (j : Nat) t v,Tryz.f3.params[j]? = some t→args[j]? = some v→Value.okWide Tryz.prog W .any base t v:=hval0
 have hW':=hW
 obtain ⟨p,q,hA0,hV,rfl,_,_⟩:=hW
 have hA : DataW.TrodAll enc Tryz.prog W 0 (fun _=>true) true Tryz.f3.params.toList args.toList ds p:=hA0
 have hp : Tryz.f3.params.toList=[27]:=by kernel_rfl
 rw [hp] at hA
 obtain ⟨v0,d0,rfl,rfl,h0⟩:=trodAll_one hA
 obtain ⟨rfl,rfl⟩:=trodVars_none hV
 simp only [List.append_nil] at hW'
 have hlt0 : ∀ x ∈ p,x.block < W.heap.size:=fun x hx=>by simpa using hW'.lt x hx
 have hwa : ∀ m ∈ DataW.weightsEach Tryz.prog [27] [d0],m≤reachBytes:=fun m hm=>by
  have h1 : (DataW.weightsEach Tryz.prog (Tryz.f3.params.toList++Rows.latticeUnitsSpec.plain.varTypes Tryz.prog) ([d0]++[])).all (·≤reachBytes)=true:=hsz
  rw [hp] at h1
  simpa using List.all_eq_true.1 h1 m hm
 have hw0 : Pv.wOk Tryz.prog 27 d0:=fun m hm=>hwa m (by simp only [DataW.weightsEach,List.mem_append]; exact .inl hm)
 obtain ⟨cs0,hv0⟩:=aPJ aNW.ty (hval 0 27 v0 (by kernel_rfl) rfl)
 obtain ⟨x0,hr0,hz0⟩:=aLV aNW hv0 h0 hw0
 have hbulk:=hcond _ rfl
 have hsm : Go.Tidy.wtT x0≤1048576:=by
  have hq : Rows.uptoBulkAll [d0]≤1048576:=of_decide_eq_true hbulk
  simp only [Rows.uptoBulkAll] at hq
  omega
 have hL2 : laidMet Tryz.prog Rows.latticeUnitsUptoRow.laid W:=by
  rw [MakeChecks.laidMetH_plain _ _ _ (by kernel_rfl)] at hL
  exact hL
 have hT:=utf8Tabs_of_readsT (U8Types.of196 Tryz.azP) u8x (Pinned.utf8First_eq ▸ Lib.laidMet.reads hL2 (.tail _ (.head _))) (aKt ▸ Lib.laidMet.reads hL2 (.head _))
 have hc:=(Pv.as0 x0 hsm).2 W (Pv.asn W) [v0] (aPU hT) (fun _ h=>h) ⟨v0,[],rfl,hr0,rfl⟩
 refine Calls.mono hc ?_
 rintro e W' ⟨v,F',rfl,hbel,-,-,hr'⟩
 have hv : v=.bool true:=hr'
 subst hv
 refine ⟨_,rfl,?_⟩
 exact ⟨_,_,_,[],_,[],hW',trodAll_mk1 (shut_bool Tryz.underlying4 _),trodAll_mk1 (Below.trod laidOut (by kernel_rfl) (of_decide_eq_true (by kernel_rfl)) h0 hbel.below hlt0),rfl,hbel.below.frame _,fun h=>by cases h⟩
end Go.Proofs.YtngjnfbngheccaaGreatDoor
