/- 'hallmarklaw11.TidyAnswers': the call from the row's worlds. No condition but the card's own. -/
import Derived.Test.YtfilonnphgnplaaGreatDoorTie
import Derived.Test.YtfilonnphgnplaaGreatDoorCards
import Derived.Test.YtfilonnphgnplaaGreatDoorA1
import Derived.Test.YtfilonnphgnplaaGreatDoorA5
import Derived.Test.YtfilonnphgnplaaGreatDoorA6
import Derived.Test.YtfilonnphgnplaaGreatDoorA9
import Derived.Test.YtfilonnphgnplaaGreatDoorA11
import Derived.Test.YtfilonnphgnplaaGreatDoorA12
import Derived.Test.YtfilonnphgnplaaGreatDoorA13
import Derived.Test.YtfilonnphgnplaaGreatDoorA14
import Derived.Test.YtfilonnphgnplaaGreatDoorA18
import Derived.Test.YtfilonnphgnplaaGreatDoorA19
import Derived.WalkKit
import Derived.ProofKit
import Derived.Lay
import Derived.LaidOnce
import Derived.SevenTiedAt
set_option linter.unusedSimpArgs false
set_option linter.unusedVariables false
namespace Go.Proofs.YtfilonnphgnplaaGreatDoor
open Go Go.ChangeShapes Go.WideShapes Go.ChangeAt Go.RowKit
theorem aIb : (Rows.laid_unicode_utf8_acceptRanges : DataW Unit)=Lib.acceptData:=by kernel_rfl
set_option maxRecDepth 100000 in
theorem lifted (os : Os) (started : os.Started) (H : Type) (enc : TypeId × Value→H) :
 ReturnsInHanded {} Tryz.checked os 3 .any (fun w args=>(Rows.tidyAnswersSpec.pre enc Tryz.prog Tryz.f3 [] false w args∧laidMetH Tryz.prog Rows.tidyAnswersRow.laid w)∧sizedMet enc Tryz.prog Tryz.f3 (OpenSpec.ofChange Rows.tidyAnswersSpec) false w args)
  (Rows.tidyAnswersSpec.post enc Tryz.prog Tryz.f3 false true false false):=by
 refine returnsInHanded_of_change_and (C:=Tryz.checked) (X:=fun w _=>laidMetH Tryz.prog Rows.tidyAnswersRow.laid w) (fun _ _ _ hh h=>h.of_heap hh) own started (by kernel_rfl) Tryz.func3
  (ChangeSpec.witness_shaped (enc:=enc) (C:=Tryz.checked) (os:=os) (X:=fun w _=>laidMetH Tryz.prog Rows.tidyAnswersRow.laid w) false (World.laidAll Tryz.prog os Rows.tidyAnswersRow.laid) #[.slice none 0 0] 8 (World.laidAll_os _ _ _)
   (World.shaped_of_ZipB (by kernel_rfl) (by kernel_rfl)) (by kernel_rfl) (by kernel_rfl) (by kernel_rfl)
   (by rw [MakeChecks.laidMetH_plain _ _ _ (by kernel_rfl)]; exact laidMet_laidAll _ (by kernel_rfl) (by kernel_rfl))) ?_
 intro W base args ds gs before hval0 hW _ hsz hL _
 have hval : ∀ (j : Nat) t v,Tryz.f3.params[j]? = some t→args[j]? = some v→Value.okWide Tryz.prog W .any base t v:=hval0
 have hW':=hW
 obtain ⟨p,q,hA0,hV,rfl,_,_⟩:=hW
 have hA : DataW.TrodAll enc Tryz.prog W 0 (fun _=>true) true Tryz.f3.params.toList args.toList ds p:=hA0
 have hp : Tryz.f3.params.toList=[22]:=by kernel_rfl
 rw [hp] at hA
 obtain ⟨v0,d0,rfl,rfl,h0⟩:=trodAll_one hA
 obtain ⟨rfl,rfl⟩:=trodVars_none hV
 simp only [List.append_nil] at hW'
 have hlt0 : ∀ x ∈ p,x.block < W.heap.size:=fun x hx=>by simpa using hW'.lt x hx
 have hwa : ∀ m ∈ DataW.weightsEach Tryz.prog [22] [d0],m≤reachBytes:=fun m hm=>by
  have h1 : (DataW.weightsEach Tryz.prog (Tryz.f3.params.toList++Rows.tidyAnswersSpec.plain.varTypes Tryz.prog) ([d0]++[])).all (·≤reachBytes)=true:=hsz
  rw [hp] at h1
  simpa using List.all_eq_true.1 h1 m hm
 have hw0 : Pv.wOk Tryz.prog 22 d0:=fun m hm=>hwa m (by simp only [DataW.weightsEach,List.mem_append]; exact .inl hm)
 obtain ⟨a0,n0,c0,hv0⟩:=okWide_slice tysOOk.l22 (hval 0 22 v0 (by kernel_rfl) rfl)
 obtain ⟨x0,hr0⟩:=Pv.read_ops tysOk tysOOk hv0 h0 hw0
 have hL2 : laidMet Tryz.prog Rows.tidyAnswersRow.laid W:=by
  rw [MakeChecks.laidMetH_plain _ _ _ (by kernel_rfl)] at hL
  exact hL
 have hT:=utf8Tabs_of_readsT (U8Types.of196 Tryz.au0) u8x (Pinned.utf8First_eq ▸ Lib.laidMet.reads hL2 (.tail _ (.head _))) (aIb ▸ Lib.laidMet.reads hL2 (.head _))
 have hc:=(Pv.apE x0).2 W (Pv.allF W) [v0] (gok_of hT) (fun _ h=>h) ⟨v0,[],rfl,hr0,rfl⟩
 refine Calls.mono hc ?_
 rintro e W' ⟨v,F',rfl,hbel,-,-,hr'⟩
 have hv : v=.bool true:=hr'
 subst hv
 refine ⟨_,rfl,?_⟩
 exact ⟨_,_,_,[],_,[],hW',trodAll_mk1 (shut_bool Tryz.underlying4 _),trodAll_mk1 (Below.trod laidOut (by kernel_rfl) (of_decide_eq_true (by kernel_rfl)) h0 hbel.below hlt0),rfl,hbel.below.frame _,fun h=>by cases h⟩
end Go.Proofs.YtfilonnphgnplaaGreatDoor
