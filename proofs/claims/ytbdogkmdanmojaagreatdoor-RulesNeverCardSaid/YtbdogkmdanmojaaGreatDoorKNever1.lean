/- 'hallmarklaw26.RulesNever': the call from the row's worlds. No condition but the card's own. -/
import Derived.Test.YtbdogkmdanmojaaGreatDoorTie
import Derived.Test.YtbdogkmdanmojaaGreatDoorCards
import Derived.Test.YtbdogkmdanmojaaGreatDoorV1
import Derived.Test.YtbdogkmdanmojaaGreatDoorV2
import Derived.Test.YtbdogkmdanmojaaGreatDoorV4
import Derived.Test.YtbdogkmdanmojaaGreatDoorV5
import Derived.Test.YtbdogkmdanmojaaGreatDoorV6
import Derived.Test.YtbdogkmdanmojaaGreatDoorV7
import Derived.Test.YtbdogkmdanmojaaGreatDoorV8
import Derived.Test.YtbdogkmdanmojaaGreatDoorV9
import Derived.Test.YtbdogkmdanmojaaGreatDoorV10
import Derived.Test.YtbdogkmdanmojaaGreatDoorV16
import Derived.WalkKit
import Derived.ProofKit
import Derived.Lay
import Derived.LaidOnce
import Derived.SevenTiedAt
set_option linter.unusedSimpArgs false
set_option linter.unusedVariables false
namespace Go.Proofs.YtbdogkmdanmojaaGreatDoor
open Go Go.ChangeShapes Go.WideShapes Go.ChangeAt Go.RowKit
theorem accept_eq : (Rows.laid_unicode_utf8_acceptRanges : DataW Unit)=Lib.acceptData:=by kernel_rfl
set_option maxRecDepth 100000 in
theorem lifted (os : Os) (started : os.Started) (H : Type) (enc : TypeId × Value→H) :
 ReturnsInHanded {} Tryz.checked os 3 .any (fun w args=>(Rows.rulesNeverSpec.pre enc Tryz.prog Tryz.f3 [] false w args∧laidMetH Tryz.prog Rows.rulesNeverRow.laid w)∧sizedMet enc Tryz.prog Tryz.f3 (OpenSpec.ofChange Rows.rulesNeverSpec) false w args)
  (Rows.rulesNeverSpec.post enc Tryz.prog Tryz.f3 false true false false):=by
 refine change_and_shaped (C:=Tryz.checked) (X:=fun w _=>laidMetH Tryz.prog Rows.rulesNeverRow.laid w) (fun _ _ _ hh h=>h.of_heap hh) own started (by kernel_rfl) Tryz.func3
  (ChangeSpec.witness_shaped (enc:=enc) (C:=Tryz.checked) (os:=os) (X:=fun w _=>laidMetH Tryz.prog Rows.rulesNeverRow.laid w) false (World.laidAll Tryz.prog os Rows.rulesNeverRow.laid) #[.agg #[.int .i64 0,.int .i64 0,.string ByteArray.empty,.bool false,.bool false,.bool false,.bool false,.slice none 0 0,.bool false,.slice none 0 0,.slice none 0 0,.slice none 0 0,.bool false,.bool false,.bool false,.bool false,.slice none 0 0,.bool false,.slice none 0 0,.slice none 0 0,.slice none 0 0,.bool false,.bool false,.bool false,.bool false,.slice none 0 0,.bool false,.slice none 0 0,.slice none 0 0,.slice none 0 0,.int .i64 0]] 8 (World.laidAll_os _ _ _)
   (World.shaped_of_ZipB (by kernel_rfl) (by kernel_rfl)) (by kernel_rfl) (by kernel_rfl) (by kernel_rfl)
   (by rw [MakeChecks.laidMetH_plain _ _ _ (by kernel_rfl)]; exact laidMet_laidAll _ (by kernel_rfl) (by kernel_rfl))) ?_
 intro W base args ds gs before hval0 hW _ hsz hL hsh _
 have hval : ∀ (j : Nat) t v,Tryz.f3.params[j]? = some t→args[j]? = some v→Value.okWide Tryz.prog W .any base t v:=hval0
 have hW':=hW
 obtain ⟨p,q,hA0,hV,rfl,_,_⟩:=hW
 have hA : DataW.TrodAll enc Tryz.prog W 0 (fun _=>true) true Tryz.f3.params.toList args.toList ds p:=hA0
 have hp : Tryz.f3.params.toList=[29]:=by kernel_rfl
 rw [hp] at hA
 obtain ⟨v0,d0,rfl,rfl,h0⟩:=trodAll_one hA
 obtain ⟨rfl,rfl⟩:=trodVars_none hV
 simp only [List.append_nil] at hW'
 have hlt : ∀ x ∈ p,x.block < W.heap.size:=fun x hx=>by simpa using hW'.lt x hx
 have hw : Pv.wOk Tryz.prog 29 d0:=fun n hn=>by
  have h1 : (DataW.weightsEach Tryz.prog (Tryz.f3.params.toList++Rows.rulesNeverSpec.plain.varTypes Tryz.prog) ([d0]++[])).all (·≤reachBytes)=true:=hsz
  rw [hp] at h1
  have h2:=List.all_eq_true.1 h1 n (by simp only [List.cons_append,DataW.weightsEach,List.mem_append]; exact .inl hn)
  simpa using h2
 obtain ⟨cs,hv0⟩ : ∃ cs,v0=.agg cs:=by
  have hv:=hval 0 29 v0 (by kernel_rfl) rfl
  unfold Value.okWide at hv
  have hs : ∃ fs,Tryz.prog.underlying 29=some (.struct fs):=by
   have ht:=tysQ.op
   unfold Pv.flds at ht
   split at ht
   ·rename_i fs hfs
    exact ⟨fs,hfs⟩
   ·cases ht
  obtain ⟨fs,hs⟩:=hs
  rw [hs] at hv
  obtain ⟨cs,hc,_⟩:=hv
  exact ⟨cs,hc⟩
 obtain ⟨o,hr,hz⟩:=Pv.read_opQ tysOk tysQ hv0 h0 hw
 have hL2 : laidMet Tryz.prog Rows.rulesNeverRow.laid W:=by
  rw [MakeChecks.laidMetH_plain _ _ _ (by kernel_rfl)] at hL
  exact hL
 have hT:=utf8Tabs_of_readsT (U8Types.of196 Tryz.laysValid) u8x (Pinned.utf8First_eq ▸ Lib.laidMet.reads hL2 (.head _)) (accept_eq ▸ Lib.laidMet.reads hL2 (.tail _ (.head _)))
 have hP:=pow_tab (pow_eq ▸ Lib.laidMet.reads hL2 (.tail _ (.tail _ (.head _))))
 have hc:=(Pv.rulesNever_ret o (by omega)).2 W (Pv.allF W) [v0] (gok_of hT hP (maxlen_int hsh)) (fun _ h=>h) ⟨v0,[],rfl,hr,rfl⟩
 refine Calls.mono hc ?_
 rintro e W' ⟨v,F',rfl,hbel,-,-,hr'⟩
 have hv : v=.bool true:=hr'
 subst hv
 refine ⟨_,rfl,?_⟩
 exact ⟨_,_,_,[],_,[],hW',trodAll_mk1 (shut_bool Tryz.underlying4 _),trodAll_mk1 (Below.trod laidOut (by kernel_rfl) (of_decide_eq_true (by kernel_rfl)) h0 hbel.below hlt),rfl,hbel.below.frame _,fun h=>by cases h⟩
end Go.Proofs.YtbdogkmdanmojaaGreatDoor
