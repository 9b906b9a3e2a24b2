/- 'hallmarklaw21.PrimTexts': the call from the row's worlds. No condition but the card's own. -/
import Derived.Test.YtnlfgnelfooljaaGreatDoorTie
import Derived.Test.YtnlfgnelfooljaaGreatDoorCards
import Derived.Test.YtnlfgnelfooljaaGreatDoorT1
import Derived.Test.YtnlfgnelfooljaaGreatDoorT4
import Derived.Test.YtnlfgnelfooljaaGreatDoorT5
import Derived.Test.YtnlfgnelfooljaaGreatDoorT6
import Derived.Test.YtnlfgnelfooljaaGreatDoorT7
import Derived.Test.YtnlfgnelfooljaaGreatDoorT9
import Derived.Test.YtnlfgnelfooljaaGreatDoorT10
import Derived.WalkKit
import Derived.ProofKit
import Derived.Lay
import Derived.LaidOnce
import Derived.SevenTiedAt
set_option linter.unusedSimpArgs false
set_option linter.unusedVariables false
namespace Go.Proofs.YtnlfgnelfooljaaGreatDoor
open Go Go.ChangeShapes Go.WideShapes Go.ChangeAt Go.RowKit
theorem accept_eq : (Rows.laid_unicode_utf8_acceptRanges : DataW Unit)=Lib.acceptData:=by kernel_rfl
set_option maxRecDepth 100000 in
theorem lifted (os : Os) (started : os.Started) (H : Type) (enc : TypeId × Value→H) :
 ReturnsInHanded {} Tryz.checked os 3 .any (fun w args=>(Rows.primTextsSpec.pre enc Tryz.prog Tryz.f3 [] false w args∧laidMetH Tryz.prog Rows.primTextsRow.laid w)∧sizedMet enc Tryz.prog Tryz.f3 (OpenSpec.ofChange Rows.primTextsSpec) false w args)
  (Rows.primTextsSpec.post enc Tryz.prog Tryz.f3 false true false false):=by
 refine change_and_shaped (C:=Tryz.checked) (X:=fun w _=>laidMetH Tryz.prog Rows.primTextsRow.laid w) (fun _ _ _ hh h=>h.of_heap hh) own started (by kernel_rfl) Tryz.func3
  (ChangeSpec.witness_shaped (enc:=enc) (C:=Tryz.checked) (os:=os) (X:=fun w _=>laidMetH Tryz.prog Rows.primTextsRow.laid w) false (World.laidAll Tryz.prog os Rows.primTextsRow.laid) #[.string ByteArray.empty,.string ByteArray.empty] 8 (World.laidAll_os _ _ _)
   (World.shaped_of_ZipB (by kernel_rfl) (by kernel_rfl)) (by kernel_rfl) (by kernel_rfl) (by kernel_rfl)
   (by rw [MakeChecks.laidMetH_plain _ _ _ (by kernel_rfl)]; exact laidMet_laidAll _ (by kernel_rfl) (by kernel_rfl))) ?_
 intro W base args ds gs before hval0 hW _ hsz hL hsh _
 have hval : ∀ (j : Nat) t v,Tryz.f3.params[j]? = some t→args[j]? = some v→Value.okWide Tryz.prog W .any base t v:=hval0
 have hW':=hW
 obtain ⟨p,q,hA0,hV,rfl,_,_⟩:=hW
 have hA : DataW.TrodAll enc Tryz.prog W 0 (fun _=>true) true Tryz.f3.params.toList args.toList ds p:=hA0
 have hp : Tryz.f3.params.toList=[9,9]:=by kernel_rfl
 rw [hp] at hA
 obtain ⟨v0,v1,d0,d1,p0,p1,rfl,rfl,rfl,h0,h1⟩:=trodAll_two hA
 obtain ⟨rfl,rfl⟩:=trodVars_none hV
 simp only [List.append_nil] at hW'
 have hlt0 : ∀ x ∈ p0,x.block < W.heap.size:=fun x hx=>by simpa using hW'.lt x (by simp [hx])
 have hlt1 : ∀ x ∈ p1,x.block < W.heap.size:=fun x hx=>by simpa using hW'.lt x (by simp [hx])
 have hwa : ∀ m ∈ DataW.weightsEach Tryz.prog [9,9] [d0,d1],m≤reachBytes:=fun m hm=>by
  have h1 : (DataW.weightsEach Tryz.prog (Tryz.f3.params.toList++Rows.primTextsSpec.plain.varTypes Tryz.prog) ([d0,d1]++[])).all (·≤reachBytes)=true:=hsz
  rw [hp] at h1
  simpa using List.all_eq_true.1 h1 m hm
 have hw0 : Pv.wOk Tryz.prog 9 d0:=fun m hm=>hwa m (by simp only [DataW.weightsEach,List.mem_append]; exact .inl hm)
 obtain ⟨n0,hv0⟩:=okWide_string Tryz.underlying9 (hval 0 9 v0 (by kernel_rfl) rfl)
 obtain ⟨x0,hr0,hz0⟩:=read_name Tryz.underlying9 hv0 h0 hw0
 have hw1 : Pv.wOk Tryz.prog 9 d1:=fun m hm=>hwa m (by simp only [DataW.weightsEach,List.mem_append]; exact .inr (.inl hm))
 obtain ⟨n1,hv1⟩:=okWide_string Tryz.underlying9 (hval 1 9 v1 (by kernel_rfl) rfl)
 obtain ⟨x1,hr1,hz1⟩:=read_name Tryz.underlying9 hv1 h1 hw1
 have hL2 : laidMet Tryz.prog Rows.primTextsRow.laid W:=by
  rw [MakeChecks.laidMetH_plain _ _ _ (by kernel_rfl)] at hL
  exact hL
 have hT:=utf8Tabs_of_readsT (U8Types.of196 Tryz.laysValid) u8x (Pinned.utf8First_eq ▸ Lib.laidMet.reads hL2 (.tail _ (.tail _ (.tail _ (.tail _ (.tail _ (.tail _ (.head _)))))))) (accept_eq ▸ Lib.laidMet.reads hL2 (.tail _ (.tail _ (.tail _ (.head _)))))
 have hP:=pow_tab (pow_eq ▸ Lib.laidMet.reads hL2 (.tail _ (.tail _ (.head _))))
 have hc:=(Pv.primTexts_ret x0 x1 (by omega) (by omega)).2 W (Pv.allF W) [v0,v1] (gok_of hT hP (maxlen_int hsh)) (fun _ h=>h) ⟨v0,[v1],rfl,hr0,⟨v1,[],rfl,hr1,rfl⟩⟩
 refine Calls.mono hc ?_
 rintro e W' ⟨v,F',rfl,hbel,-,-,hr'⟩
 have hv : v=.bool true:=hr'
 subst hv
 refine ⟨_,rfl,?_⟩
 exact ⟨_,_,_,[],_,[],hW',trodAll_mk1 (shut_bool Tryz.underlying4 _),trodAll_mk2 (Below.trod laidOut (by kernel_rfl) (of_decide_eq_true (by kernel_rfl)) h0 hbel.below hlt0) (Below.trod laidOut (by kernel_rfl) (of_decide_eq_true (by kernel_rfl)) h1 hbel.below hlt1),rfl,hbel.below.frame _,fun h=>by cases h⟩
end Go.Proofs.YtnlfgnelfooljaaGreatDoor
