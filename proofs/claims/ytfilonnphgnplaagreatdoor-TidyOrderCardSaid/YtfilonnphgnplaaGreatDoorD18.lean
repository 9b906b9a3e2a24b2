/- Part 18. -/
import Derived.Test.YtfilonnphgnplaaGreatDoorD17
import Derived.Test.YtfilonnphgnplaaGreatDoorTie
import Derived.Test.YtfilonnphgnplaaGreatDoorCards
import Derived.WalkKit
import Derived.ProofKit
import Derived.Lay
import Derived.LaidOnce
import Derived.SevenTiedAt
set_option linter.unusedSimpArgs false
set_option linter.unusedVariables false
namespace Go.Proofs.YtfilonnphgnplaaGreatDoor
open Go Go.ChangeShapes Go.WideShapes Go.ChangeAt Go.RowKit
theorem accept_eq:(Rows.laid_unicode_utf8_acceptRanges:DataW Unit)=Lib.acceptData:=by kernel_rfl
set_option maxRecDepth 100000 in
theorem lifted (os:Os) (started:os.Started) (H:Type) (enc:TypeId × Value→H) :
 ReturnsInHanded {} Tryz.checked os 9 .any (fun w args=>(Rows.tidyOrderSpec.pre enc Tryz.prog Tryz.f9 [] false w args∧laidMetH Tryz.prog Rows.tidyOrderRow.laid w)∧sizedMet enc Tryz.prog Tryz.f9 (OpenSpec.ofChange Rows.tidyOrderSpec) false w args)
  (Rows.tidyOrderSpec.post enc Tryz.prog Tryz.f9 false true false false):=by
 refine returnsInHanded_of_change_and (C:=Tryz.checked) (X:=fun w _=>laidMetH Tryz.prog Rows.tidyOrderRow.laid w) (fun _ _ _ hh h=>h.of_heap hh) own started (by kernel_rfl) Tryz.func9
  (ChangeSpec.witness_shaped (enc:=enc) (C:=Tryz.checked) (os:=os) (X:=fun w _=>laidMetH Tryz.prog Rows.tidyOrderRow.laid w) false (World.laidAll Tryz.prog os Rows.tidyOrderRow.laid) #[.agg #[.bool false,.bool false,.bool false,.bool false,.slice none 0 0,.bool false,.slice none 0 0,.slice none 0 0,.slice none 0 0]] 8 (World.laidAll_os _ _ _)
   (World.shaped_of_ZipB (by kernel_rfl) (by kernel_rfl)) (by kernel_rfl) (by kernel_rfl) (by kernel_rfl)
   (by rw[MakeChecks.laidMetH_plain _ _ _ (by kernel_rfl)]; exact laidMet_laidAll _ (by kernel_rfl) (by kernel_rfl))) ?_
 intro W base args ds gs before hval0 hW _ hsz hL _
 have hval:∀ (j:Nat) t v,Tryz.f9.params[j]? = some t→args[j]? = some v→Value.okWide Tryz.prog W .any base t v:=hval0
 have hW':=hW
 obtain⟨p,q,hA0,hV,rfl,_,_⟩:=hW
 have hA:DataW.TrodAll enc Tryz.prog W 0 (fun _=>true) true Tryz.f9.params.toList args.toList ds p:=hA0
 have hp:Tryz.f9.params.toList=[30]:=by kernel_rfl
 rw[hp] at hA
 obtain⟨v0,d0,rfl,rfl,h0⟩:=trodAll_one hA
 obtain⟨rfl,rfl⟩:=trodVars_none hV
 simp only[List.append_nil] at hW'
 have hlt:∀ x∈p,x.block<W.heap.size:=fun x hx=>by simpa using hW'.lt x hx
 have hw:Pv.wOk Tryz.prog 30 d0:=fun n hn=>by
  have h1:(DataW.weightsEach Tryz.prog (Tryz.f9.params.toList++Rows.tidyOrderSpec.plain.varTypes Tryz.prog) ([d0]++[])).all (·≤reachBytes)=true:=hsz
  rw[hp] at h1
  have h2:=List.all_eq_true.1 h1 n (by simp only[List.cons_append,DataW.weightsEach,List.mem_append]; exact .inl hn)
  simpa using h2
 obtain⟨cs,hv0⟩ : ∃ cs,v0=.agg cs:=by
  have hv:=hval 0 30 v0 (by kernel_rfl) rfl
  unfold Value.okWide at hv
  have hs:∃ fs,Tryz.prog.underlying 30=some (.struct fs):=by
   have ht:=tysOk.ty
   unfold Pv.flds at ht
   split at ht
   ·rename_i fs hfs
    exact⟨fs,hfs⟩
   ·cases ht
  obtain⟨fs,hs⟩:=hs
  rw[hs] at hv
  obtain⟨cs,hc,_⟩:=hv
  exact⟨cs,hc⟩
 obtain⟨t,hr⟩:=Pv.read_ty tysOk hv0 h0 hw
 have hL2:laidMet Tryz.prog Rows.tidyOrderRow.laid W:=by
  rw[MakeChecks.laidMetH_plain _ _ _ (by kernel_rfl)] at hL
  exact hL
 have hT:=utf8Tabs_of_readsT (U8Types.of196 Tryz.laysValid) u8x (Pinned.utf8First_eq ▸ Lib.laidMet.reads hL2 (.tail _ (.head _))) (accept_eq ▸ Lib.laidMet.reads hL2 (.head _))
 have hc:=(Pv.tidyOrder_ret t).2 W (Pv.allF W) [v0] (gok_of hT) (fun _ h=>h) ⟨v0,[],rfl,hr,rfl⟩
 refine Calls.mono hc ?_
 rintro e W' ⟨v,F',rfl,hbel,-,-,hr'⟩
 have hv:v=.bool true:=hr'
 subst hv
 refine⟨_,rfl,?_⟩
 exact⟨_,_,_,[],_,[],hW',trodAll_mk1 (shut_bool Tryz.underlying4 _),trodAll_mk1 (Below.trod laidOut (by kernel_rfl) (of_decide_eq_true (by kernel_rfl)) h0 hbel.below hlt),rfl,hbel.below.frame _,fun h=>by cases h⟩
end Go.Proofs.YtfilonnphgnplaaGreatDoor
