/- 'hallmarklaw11.TidyCuts': the call from the row's worlds. No condition but the card's own. -/
import Derived.Test.YtfilonnphgnplaaGreatDoorTie
import Derived.Test.YtfilonnphgnplaaGreatDoorCards
import Derived.Test.YtfilonnphgnplaaGreatDoorC1
import Derived.Test.YtfilonnphgnplaaGreatDoorC5
import Derived.Test.YtfilonnphgnplaaGreatDoorC6
import Derived.Test.YtfilonnphgnplaaGreatDoorC9
import Derived.Test.YtfilonnphgnplaaGreatDoorC11
import Derived.Test.YtfilonnphgnplaaGreatDoorC12
import Derived.Test.YtfilonnphgnplaaGreatDoorC13
import Derived.Test.YtfilonnphgnplaaGreatDoorC15
import Derived.Test.YtfilonnphgnplaaGreatDoorC17
import Derived.Test.YtfilonnphgnplaaGreatDoorC18
import Derived.WalkKit
import Derived.ProofKit
import Derived.Lay
import Derived.LaidOnce
import Derived.SevenTiedAt
set_option linter.unusedSimpArgs false
set_option linter.unusedVariables false
namespace Go.Proofs.YtfilonnphgnplaaGreatDoor
open Go Go.ChangeShapes Go.WideShapes Go.ChangeAt Go.RowKit
theorem accept_eq : (Rows.laid_unicode_utf8_acceptRanges : DataW Unit)=Lib.acceptData:=by kernel_rfl
set_option maxRecDepth 100000 in
theorem lifted (os : Os) (started : os.Started) (H : Type) (enc : TypeId × Value→H) :
 ReturnsInHanded {} Tryz.checked os 8 .any (fun w args=>(Rows.tidyCutsSpec.pre enc Tryz.prog Tryz.f8 [] false w args∧laidMetH Tryz.prog Rows.tidyCutsRow.laid w)∧sizedMet enc Tryz.prog Tryz.f8 (OpenSpec.ofChange Rows.tidyCutsSpec) false w args)
  (Rows.tidyCutsSpec.post enc Tryz.prog Tryz.f8 false true false false):=by
 refine returnsInHanded_of_change_and (C:=Tryz.checked) (X:=fun w _=>laidMetH Tryz.prog Rows.tidyCutsRow.laid w) (fun _ _ _ hh h=>h.of_heap hh) own started (by kernel_rfl) Tryz.func8
  (ChangeSpec.witness_shaped (enc:=enc) (C:=Tryz.checked) (os:=os) (X:=fun w _=>laidMetH Tryz.prog Rows.tidyCutsRow.laid w) false (World.laidAll Tryz.prog os Rows.tidyCutsRow.laid) #[.agg #[.bool false,.bool false,.bool false,.bool false,.slice none 0 0,.bool false,.slice none 0 0,.slice none 0 0,.slice none 0 0],.int .i64 0,.agg #[.int .i64 0,.string ByteArray.empty,.string ByteArray.empty,.slice none 0 0,.slice none 0 0]] 8 (World.laidAll_os _ _ _)
   (World.shaped_of_ZipB (by kernel_rfl) (by kernel_rfl)) (by kernel_rfl) (by kernel_rfl) (by kernel_rfl)
   (by rw [MakeChecks.laidMetH_plain _ _ _ (by kernel_rfl)]; exact laidMet_laidAll _ (by kernel_rfl) (by kernel_rfl))) ?_
 intro W base args ds gs before hval0 hW _ hsz hL _
 have hval : ∀ (j : Nat) t v,Tryz.f8.params[j]? = some t→args[j]? = some v→Value.okWide Tryz.prog W .any base t v:=hval0
 have hW':=hW
 obtain ⟨p,q,hA0,hV,rfl,_,_⟩:=hW
 have hA : DataW.TrodAll enc Tryz.prog W 0 (fun _=>true) true Tryz.f8.params.toList args.toList ds p:=hA0
 have hp : Tryz.f8.params.toList=[30,3,38]:=by kernel_rfl
 rw [hp] at hA
 obtain ⟨v0,v1,v2,d0,d1,d2,p0,p1,p2,rfl,rfl,rfl,h0,h1,h2⟩:=trodAll_three hA
 obtain ⟨rfl,rfl⟩:=trodVars_none hV
 simp only [List.append_nil] at hW'
 have hlt0 : ∀ x ∈ p0,x.block < W.heap.size:=fun x hx=>by simpa using hW'.lt x (by simp [hx])
 have hlt1 : ∀ x ∈ p1,x.block < W.heap.size:=fun x hx=>by simpa using hW'.lt x (by simp [hx])
 have hlt2 : ∀ x ∈ p2,x.block < W.heap.size:=fun x hx=>by simpa using hW'.lt x (by simp [hx])
 have hwa : ∀ m ∈ DataW.weightsEach Tryz.prog [30,3,38] [d0,d1,d2],m≤reachBytes:=fun m hm=>by
  have h1 : (DataW.weightsEach Tryz.prog (Tryz.f8.params.toList++Rows.tidyCutsSpec.plain.varTypes Tryz.prog) ([d0,d1,d2]++[])).all (·≤reachBytes)=true:=hsz
  rw [hp] at h1
  simpa using List.all_eq_true.1 h1 m hm
 have hw0 : Pv.wOk Tryz.prog 30 d0:=fun m hm=>hwa m (by simp only [DataW.weightsEach,List.mem_append]; exact .inl hm)
 obtain ⟨cs0,hv0⟩:=agg_of tysOk.ty (hval 0 30 v0 (by kernel_rfl) rfl)
 obtain ⟨x0,hr0⟩:=Pv.read_ty tysOk hv0 h0 hw0
 have hw1 : Pv.wOk Tryz.prog 3 d1:=fun m hm=>hwa m (by simp only [DataW.weightsEach,List.mem_append]; exact .inr (.inl hm))
 obtain ⟨n1,hv1⟩:=okWide_int tysOk.i (hval 1 3 v1 (by kernel_rfl) rfl)
 obtain ⟨x1,hr1⟩:=Pv.read_int tysOk hv1 h1 hw1
 have hw2 : Pv.wOk Tryz.prog 38 d2:=fun m hm=>hwa m (by simp only [DataW.weightsEach,List.mem_append]; exact .inr (.inr (.inl hm)))
 obtain ⟨cs2,hv2⟩:=agg_of tysVOk.va (hval 2 38 v2 (by kernel_rfl) rfl)
 obtain ⟨x2,hr2⟩:=Pv.read_val tysOk tysVOk hv2 h2 hw2
 have hL2 : laidMet Tryz.prog Rows.tidyCutsRow.laid W:=by
  rw [MakeChecks.laidMetH_plain _ _ _ (by kernel_rfl)] at hL
  exact hL
 have hT:=utf8Tabs_of_readsT (U8Types.of196 Tryz.laysValid) u8x (Pinned.utf8First_eq ▸ Lib.laidMet.reads hL2 (.tail _ (.head _))) (accept_eq ▸ Lib.laidMet.reads hL2 (.head _))
 have hc:=(Pv.tidyCuts_ret x0 x1 x2).2 W (Pv.allF W) [v0,v1,v2] (gok_of hT) (fun _ h=>h) ⟨v0,[v1,v2],rfl,hr0,⟨v1,[v2],rfl,hr1,⟨v2,[],rfl,hr2,rfl⟩⟩⟩
 refine Calls.mono hc ?_
 rintro e W' ⟨v,F',rfl,hbel,-,-,hr'⟩
 have hv : v=.bool true:=hr'
 subst hv
 refine ⟨_,rfl,?_⟩
 exact ⟨_,_,_,[],_,[],hW',trodAll_mk1 (shut_bool Tryz.underlying4 _),trodAll_mk3 (Below.trod laidOut (by kernel_rfl) (of_decide_eq_true (by kernel_rfl)) h0 hbel.below hlt0) (Below.trod laidOut (by kernel_rfl) (of_decide_eq_true (by kernel_rfl)) h1 hbel.below hlt1) (Below.trod laidOut (by kernel_rfl) (of_decide_eq_true (by kernel_rfl)) h2 hbel.below hlt2),rfl,hbel.below.frame _,fun h=>by cases h⟩
end Go.Proofs.YtfilonnphgnplaaGreatDoor
