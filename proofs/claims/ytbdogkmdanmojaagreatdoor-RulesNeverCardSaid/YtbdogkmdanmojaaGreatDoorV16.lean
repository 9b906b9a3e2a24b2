/- Part 16. -/
import Derived.Test.YtbdogkmdanmojaaGreatDoorV12
import Derived.Test.YtbdogkmdanmojaaGreatDoorV13
import Derived.Test.YtbdogkmdanmojaaGreatDoorV14
import Derived.Test.YtbdogkmdanmojaaGreatDoorV15
import Derived.Test.YtbdogkmdanmojaaGreatDoorRows
import Derived.Shelf.Vars
import Derived.Lib.LaidU8
import Derived.Lib.LaidU8T
import Derived.PinnedBridge
import Derived.ProofKit
set_option linter.unusedSimpArgs false
set_option linter.unusedVariables false
set_option maxRecDepth 100000
namespace Go.Proofs.YtbdogkmdanmojaaGreatDoor.Pv
open Go Go.Tidy
theorem c_law26_numbers (a b:S):Ret prog M.F_law26_numbers [.str a,.str b] (.agg (nmC a b)):=by
 refine Ret.go hmix h_law26_numbers (by simp) fun hb w0 F0 hG=>?_
 simp
theorem c_law26_sameT (x:Ty):Ret prog M.F_law26_same [.agg (cT x),.agg (cT x)] (.bool true):=by
 have c:Ret prog M.F_kit_SameType [.agg (cT x),.agg (cT x)] (.bool true):=by
  have c:=c_kit_SameType x x
  have e:eqv x x=true:=by simp[eqv]
  rw[e] at c; exact c
 refine Ret.go hmix h_law26_same (by simp) fun hb w0 F0 hG=>?_
 simp
 intros
 refine XCall.ret (by first|exact c|(simpa using c)) ?_
 simp
theorem sN (a b:S):Ret prog M.F_law26_same [.agg (nmC a b),.agg (nmC a b)] (.bool true):=c_law26_sameT (.mk false false false false [⟨a,b⟩] false [] [] [])
theorem s0:Ret prog M.F_law26_same [.agg nvC,.agg nvC] (.bool true):=c_law26_sameT tNever
theorem sX (a:S):Ret prog M.F_law26_same [.agg (txC a),.agg (txC a)] (.bool true):=c_law26_sameT (.mk false false false false [] false [a] [] [])
set_option maxHeartbeats 8000000 in
theorem run_fixed:Ret prog M.F_law26_fixed [] (.bool true):=by
 have n13:=c_law26_numbers ⟨#[49]⟩ ⟨#[51]⟩
 have n10:=c_law26_numbers ⟨#[49,48]⟩ ⟨#[]⟩
 have n11:=c_law26_numbers ⟨#[49,49]⟩ ⟨#[]⟩
 have m11:=c_law26_numbers ⟨#[49]⟩ ⟨#[49]⟩
 have n00:=c_law26_numbers ⟨#[48]⟩ ⟨#[48]⟩
 have r1:=run_add
 have r2:=run_div
 have r3:=run_index
 have r4:=run_length
 have e1:=sN ⟨#[49,49]⟩ ⟨#[]⟩
 have e2:=s0
 have e3:=sX ⟨#[100,105,118,32,98,121,32,48]⟩
 have e4:=sN ⟨#[49]⟩ ⟨#[51]⟩
 have e5:=sN ⟨#[49]⟩ ⟨#[49]⟩
 refine Ret.go hmix h_law26_fixed (by simp) fun hb w0 F0 hG=>?_
 simp
 intros
 refine XCall.ret (by first|exact n13|(simpa using n13)) ?_
 simp
 intros
 refine XCall.ret (by first|exact n10|(simpa using n10)) ?_
 simp
 intros
 refine XCall.ret (by first|exact r1|(simpa using r1)) ?_
 simp
 intros
 refine XDCall.ret (by first|exact n11|(simpa using n11)) ?_
 simp
 intros
 refine XDCall.ret (by first|exact e1|(simpa using e1)) ?_
 simp
 intros
 refine XDCall.ret (by first|exact e2|(simpa using e2)) ?_
 simp
 intros
 refine XCall.ret (by first|exact m11|(simpa using m11)) ?_
 simp
 intros
 refine XCall.ret (by first|exact n00|(simpa using n00)) ?_
 simp
 intros
 refine XCall.ret (by first|exact r2|(simpa using r2)) ?_
 simp
 intros
 refine XCall.ret (by first|exact e2|(simpa using e2)) ?_
 simp
 intros
 refine XCall.ret (by first|exact e3|(simpa using e3)) ?_
 simp
 intros
 refine XCall.ret (by first|exact n13|(simpa using n13)) ?_
 simp
 intros
 refine XCall.ret (by first|exact r3|(simpa using r3)) ?_
 simp
 intros
 refine XDCall.ret (by first|exact n13|(simpa using n13)) ?_
 simp
 intros
 refine XDCall.ret (by first|exact e4|(simpa using e4)) ?_
 simp
 intros
 refine XDCall.ret (by first|exact e2|(simpa using e2)) ?_
 simp
 intros
 refine XCall.ret (by first|exact r4|(simpa using r4)) ?_
 simp
 intros
 refine XDCall.ret (by first|exact m11|(simpa using m11)) ?_
 simp
 intros
 refine XDCall.ret (by first|exact e5|(simpa using e5)) ?_
 simp
end Go.Proofs.YtbdogkmdanmojaaGreatDoor.Pv
namespace Go.Proofs.YtbdogkmdanmojaaGreatDoor.Pv
open Go
theorem rulesNever_ret (o:Op26) (hn:o.name.size≤140737488355000):Ret prog M.F_law26_RulesNever [.agg (cQ o)] (.bool true):=c_law26_RulesNever run_all0 run_fixed o hn
end Go.Proofs.YtbdogkmdanmojaaGreatDoor.Pv
namespace Go.Proofs.YtbdogkmdanmojaaGreatDoor
open Go Go.ChangeShapes Go.WideShapes Go.ChangeAt Go.RowKit
theorem own:ownKnob Tryz.prog.godebug=none:=by kernel_rfl
theorem laidOut:laidOutB Tryz.prog=true:=by kernel_rfl
theorem tysOk:Pv.Tys Tryz.prog where
 b:=by kernel_rfl
 i:=by kernel_rfl
 s:=by kernel_rfl
 l25:=by kernel_rfl
 l26:=by kernel_rfl
 l27:=by kernel_rfl
 l28:=by kernel_rfl
 l54:=by kernel_rfl
 l55:=by kernel_rfl
 c:=by
   have h:([4,3,9,22,23,24,25,38,39].all fun e=>Tryz.prog.cellsOf e == 1)=true:=by kernel_rfl
   intro e he
   simpa using List.all_eq_true.1 h e he
 c30:=by kernel_rfl
 c57:=by kernel_rfl
 c98:=by kernel_rfl
 c106:=by kernel_rfl
 ty:=by kernel_rfl
 ob:=by kernel_rfl
 ar:=by kernel_rfl
 sp:=by kernel_rfl
 bytes:=by
  have h:([64,9,76,41,27,4].all fun e=>decide (1≤Tryz.prog.bytesOf e))=true:=by kernel_rfl
  intro e he
  simpa using List.all_eq_true.1 h e he
theorem tysQ:Pv.TysQ Tryz.prog where
 c:=by kernel_rfl
 op:=by kernel_rfl
theorem u8x:U8Extra Tryz.prog Tryz.laysValid_ren:=⟨by kernel_rfl,by kernel_rfl,by kernel_rfl,by kernel_rfl,by kernel_rfl,by kernel_rfl,by kernel_rfl⟩
theorem gtab_all:((List.range Tryz.prog.globals.size).all fun g=>match Pv.gTab Tryz.prog g with
 | none=>true
 | some cs=>(g == Tryz.laysValid_ren.g 3&&cs == Pv.utf8First)||(g == Tryz.laysValid_ren.g 4&&cs == Pv.utf8Accept))=true:=by kernel_rfl
theorem gtab_cases {g:Nat} {cs:List Nat} (h:Pv.gTab Tryz.prog g=some cs):(g=Tryz.laysValid_ren.g 3∧cs=Pv.utf8First)∨(g=Tryz.laysValid_ren.g 4∧cs=Pv.utf8Accept):=by
 have hg:g<Tryz.prog.globals.size:=by
  have h2:=h
  unfold Pv.gTab at h2
  split at h2
  ·rename_i gl hgl
   exact (Array.getElem?_eq_some_iff.1 hgl).1
  ·cases h2
 have h3:=List.all_eq_true.1 gtab_all g (List.mem_range.2 hg)
 rw[h] at h3
 simp only[Bool.or_eq_true,Bool.and_eq_true,beq_iff_eq] at h3
 exact h3
theorem cell_lt {w:World} {g j:Nat} {v:Value} (h:w.cell? ⟨g,j,none⟩=some v):g<w.heap.size:=by
 unfold World.cell? at h
 split at h
 ·rename_i hb
  exact (Array.getElem?_eq_some_iff.1 hb).1
 ·cases h
theorem first_le:∀ c:Fin 256,Lib.firstT c.1≤255:=by decide +kernel
theorem accept_le:∀ i:Fin 16,Lib.accLo i.1≤255∧Lib.accHi i.1≤255:=by decide +kernel
theorem first_len:Pv.utf8First.length=256:=by kernel_rfl
theorem accept_len:Pv.utf8Accept.length=32:=by kernel_rfl
theorem pow_eq:(Rows.laid_internal_strconv_uint64pow10:DataW Unit)=Lib.tabData .u64 Lib.pow10Tab:=by kernel_rfl
def powChk (P:Program):Bool:=match P.globalNamed "internal/strconv.uint64pow10" with
 | some g=>(match (P.globals[g]?).map (·.type) with
   | some t=>(match P.underlying t with
     | some (.array n e)=>(match P.underlying e with
       | some (.int .u64)=>P.cellsOf e == 1&&P.cellsOf t == n
       | _=>false)
     | _=>false)
   | none=>false)
 | none=>false
theorem pow_chk:powChk Tryz.prog=true:=by kernel_rfl
theorem pow_of {P:Program} (h:powChk P=true):∃ g t e n,P.globalNamed "internal/strconv.uint64pow10" = some g∧(P.globals[g]?).map (·.type)=some t∧P.underlying t=some (.array n e)∧P.underlying e=some (.int .u64)∧P.cellsOf e=1∧P.cellsOf t=n:=by
 unfold powChk at h
 split at h
 ·rename_i g hg
  split at h
  ·rename_i t ht
   split at h
   ·rename_i n e hu
    split at h
    ·rename_i hi
     simp only[Bool.and_eq_true,beq_iff_eq] at h
     exact⟨g,t,e,n,hg,ht,hu,hi,h.1,h.2⟩
    ·cases h
   ·cases h
  ·cases h
 ·cases h
theorem pow_tab {w:World} (h:Lib.VarReads Tryz.prog w "internal/strconv.uint64pow10" (Lib.tabData .u64 Lib.pow10Tab)):Lib.TabIs Tryz.prog w "internal/strconv.uint64pow10" .u64 Lib.pow10Tab:=by
 obtain⟨g,t,e,n,hg,hty,ht,he,hce,hct⟩:=pow_of pow_chk
 obtain⟨g',t',cs,fuel,p,hg',ht',hvar,hd⟩:=h
 obtain rfl:=Option.some.inj (hg.symm.trans hg')
 obtain rfl:=Option.some.inj (hty.symm.trans ht')
 unfold Lib.TabIs
 rw[hvar,← Lib.cells_of_tab ht he hce hct hd]
theorem tab_lt {P:Program} {w:World} {name:String} {k:IntKind} {zs:List Int} {g:Nat} (hg:P.globalNamed name=some g) (h:Lib.TabIs P w name k zs):g<w.heap.size:=by
 unfold Lib.TabIs World.var? at h
 rw[hg] at h
 simp only[Option.bind_some] at h
 split at h
 ·rename_i hb
  exact (Array.getElem?_eq_some_iff.1 hb).1
 ·cases h
theorem maxlen_int {w:World} (h:w.ShapedOpen Tryz.prog):∃ m,w.cell? ⟨3,0,none⟩=some (.int .i64 m) :=
 cell_of_shapedOpen_int (t:=3) (zero:=#[.int .i64 0]) h (of_decide_eq_true (by kernel_rfl)) (by kernel_rfl) rfl (by kernel_rfl) (by kernel_rfl) Tryz.underlying3
theorem maxlen_g:Tryz.prog.globalNamed "internal/bytealg.MaxLen" = some 3:=by kernel_rfl
theorem change_and_shaped {H:Type} {enc:TypeId × Value→H} {a:Assume} {C:Checked} {os:Os} {f:FuncId} {fn:Func} {s:ChangeSpec} {conds:List PathCond} {apart fresh handsOn again:Bool} {X:World→Array Value→Prop}
 (hX:∀ (w w' : World) (args:Array Value),w.heap=w'.heap→X w args→X w' args)
 (own:ownKnob C.prog.godebug=none) (started:os.Started) (noInit:C.prog.inits.idxOf? f=none) (hfn:C.prog.funcs[f]? = some fn)
 (witness:∃ (w:World) (tape:Tape) (i:Input),w.os=os∧(w.forCall tape i).Shaped C.prog∧i.vars=[]∧Input.okWide C.prog (w.forCall tape i) .any w.heap.size f i ∧
  ((s.pre enc C.prog fn conds apart (w.forCall tape i).memory i.args∧X (w.forCall tape i).memory i.args)∧sizedMet enc C.prog fn (OpenSpec.ofChange s) apart (w.forCall tape i).memory i.args)∧a.holds C.prog (lone (Frame.enter C.prog f i.args .normal) [] (w.forCall tape i)))
 (contract:∀ (W:World) (base:Nat) (args:Array Value) (ds gs:List (DataW H)) (before:List MemPlace),
  (∀ (j:Nat) t v,fn.params[j]? = some t→args[j]? = some v→Value.okWide C.prog W .any base t v) →
  DataW.Whole enc C.prog fn.params.toList s.vars apart W args.toList ds gs before →
  conds.all (PathCond.test C.prog ⟨fn.params.toList,ds,s.plain.varTypes C.prog,gs⟩)=true →
  (DataW.weightsEach C.prog (fn.params.toList++s.plain.varTypes C.prog) (ds++gs)).all (·≤reachBytes)=true→X W args→W.ShapedOpen C.prog →
  a.holds C.prog (lone (Frame.enter C.prog f args .normal) [] W) →
  Calls C.prog f args W fun e W'=>∃ v,e=.returned v∧s.post enc C.prog fn apart fresh handsOn again W args v W') :
 ReturnsInHanded a C os f .any (fun w args=>(s.pre enc C.prog fn conds apart w args∧X w args)∧sizedMet enc C.prog fn (OpenSpec.ofChange s) apart w args) (s.post enc C.prog fn apart fresh handsOn again):=by
 refine returnsInHanded_of_calls own started noInit witness ?_
 intro w tape i _ hsh _ hok hpre hholds
 obtain⟨_,_,_,fn',hfn',_,_,_,_,hval⟩:=hok
 have e:fn'=fn:=Option.some.inj (hfn'.symm.trans hfn)
 subst e
 obtain⟨⟨⟨ds,gs,before,hw,hc⟩,hx⟩,hz⟩:=hpre
 have hw':=DataW.Whole.of_heap (w':=w.forCall tape i) (by rfl) hw
 refine (contract (w.forCall tape i) w.heap.size i.args ds gs before hval hw' hc (hz.weights hw) (hX _ _ _ (by rfl) hx) hsh hholds).mono fun e W' ⟨v,he,hp⟩=>?_
 subst he
 exact ChangeSpec.post_blind hp
theorem gok_of {w:World} (hT:Lib.Utf8Tabs (Tryz.laysValid_ren.g 3) (Tryz.laysValid_ren.g 4) w) (hP:Lib.TabIs Tryz.prog w "internal/strconv.uint64pow10" .u64 Lib.pow10Tab) (hM:∃ m,w.cell? ⟨3,0,none⟩=some (.int .i64 m)):Pv.GOk Tryz.prog w (Pv.allF w):=by
 refine⟨?_,fun t ht g hg=>by
  simp only[Pv.xTabs,List.mem_singleton] at ht
  subst ht
  exact⟨tab_lt hg hP,tab_lt hg hP,hP⟩,fun n hn g hg=>by
  simp only[Pv.xInts,List.mem_singleton] at hn
  subst hn
  obtain rfl:=Option.some.inj (maxlen_g.symm.trans hg)
  obtain⟨m,hm⟩:=hM
  exact⟨cell_lt hm,cell_lt hm,m,hm⟩⟩
 intro g cs hg
 rcases gtab_cases hg with ⟨e1,e2⟩|⟨e1,e2⟩
 ·have h0:=hT.1 0 (by omega)
  rw[← e1] at h0
  refine⟨cell_lt h0,cell_lt h0,fun j n hj=>?_⟩
  rw[e2] at hj
  have hl:j<256:=by
   have:=(List.getElem?_eq_some_iff.1 hj).1
   rw[first_len] at this; exact this
  have e:=Pv.first_at ⟨j,hl⟩
  rw[hj] at e
  have e:=Option.some.inj e
  rw[e,e1]
  exact⟨hT.1 j hl,first_le ⟨j,hl⟩⟩
 ·have h0:=(hT.2 0 (by omega)).1
  rw[← e1] at h0
  refine⟨cell_lt h0,cell_lt h0,fun j n hj=>?_⟩
  rw[e2] at hj
  have hl:j<32:=by
   have:=(List.getElem?_eq_some_iff.1 hj).1
   rw[accept_len] at this; exact this
  have hi:j / 2<16:=by omega
  rw[e1]
  by_cases hp:j % 2=0
  ·have ej:j=2*(j / 2):=by omega
   have e:=(Pv.accept_at ⟨j / 2,hi⟩).1
   simp only at e
   rw[← ej,hj] at e
   have e:=Option.some.inj e
   have h1:=(hT.2 (j / 2) hi).1
   rw[← ej] at h1
   rw[e]
   exact⟨h1,(accept_le ⟨j / 2,hi⟩).1⟩
  ·have ej:j=2*(j / 2)+1:=by omega
   have e:=(Pv.accept_at ⟨j / 2,hi⟩).2
   simp only at e
   rw[← ej,hj] at e
   have e:=Option.some.inj e
   have h1:=(hT.2 (j / 2) hi).2
   rw[← ej] at h1
   rw[e]
   exact⟨h1,(accept_le ⟨j / 2,hi⟩).2⟩
end Go.Proofs.YtbdogkmdanmojaaGreatDoor
