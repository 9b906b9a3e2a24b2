/- Part 10. -/
import Derived.Test.YtnlfgnelfooljaaGreatDoorT9
import Derived.Defers
import Derived.Recover
import Derived.Laws.Pointers
import Derived.ProofKit
import Derived.Test.YtnlfgnelfooljaaGreatDoorRows
import Derived.Shelf.Vars
import Derived.Lib.LaidU8
import Derived.Lib.LaidU8T
import Derived.PinnedBridge
set_option linter.unusedSimpArgs false
set_option linter.unusedVariables false
namespace Go.Proofs.YtnlfgnelfooljaaGreatDoor.Pv
open Go
def cl (f k:Nat) (m:MC) (nt:Nat) (rs:List RV):Option (MC × Nat × List RV):=bif Nat.beq f k then some (m.erase,nt,rs) else none
theorem cl_ok {f k nt:Nat} {m:MC} {rs:List RV} (hk:mfOf prog k=some (m.erase,nt,rs)) {R:MC × Nat × List RV} (h:cl f k m nt rs=some R):mfOf prog f=some R:=by
 unfold cl at h
 cases e:Nat.beq f k with
 | true=>rw[e] at h; rw[Nat.eq_of_beq_eq_true e,hk]; exact h
 | false=>rw[e] at h; cases h
theorem nd_ok {f:Nat} {c:Bool} {x y:Option (MC × Nat × List RV)} {R:MC × Nat × List RV} (hx:x=some R→mfOf prog f=some R) (hy:y=some R→mfOf prog f=some R) (h:(bif c then x else y)=some R):mfOf prog f=some R:=by
 cases c with
 | true=>exact hx h
 | false=>exact hy h
def tab (f:Nat):Option (MC × Nat × List RV):=(bif Nat.blt f M.F_stringslite_HasPrefix then (bif Nat.blt f M.F_value_allFormed then (bif Nat.blt f M.F_value_Twin then (bif Nat.blt f M.F_slices_ContainsFunc_Value then (cl f M.F_value_Formed M.m_value_Formed 61 M.rs_value_Formed) else (bif Nat.blt f M.F_value_Weight then (cl f M.F_slices_ContainsFunc_Value M.m_slices_ContainsFunc_Value 9 M.rs_slices_ContainsFunc_Value) else (cl f M.F_value_Weight M.m_value_Weight 43 M.rs_value_Weight))) else (bif Nat.blt f M.F_value_empty then (bif Nat.blt f M.F_prim_input_add then (cl f M.F_value_Twin M.m_value_Twin 30 M.rs_value_Twin) else (cl f M.F_prim_input_add M.m_prim_input_add 118 M.rs_prim_input_add)) else (bif Nat.blt f M.F_tens_Formed then (cl f M.F_value_empty M.m_value_empty 43 M.rs_value_empty) else (cl f M.F_tens_Formed M.m_tens_Formed 38 M.rs_tens_Formed)))) else (bif Nat.blt f M.F_prim_input_all then (bif Nat.blt f M.F_slices_IndexFunc_Value then (cl f M.F_value_allFormed M.m_value_allFormed 6 M.rs_value_allFormed) else (bif Nat.blt f M.F_strings_TrimPrefix then (cl f M.F_slices_IndexFunc_Value M.m_slices_IndexFunc_Value 19 M.rs_slices_IndexFunc_Value) else (cl f M.F_strings_TrimPrefix M.m_strings_TrimPrefix 8 M.rs_strings_TrimPrefix))) else (bif Nat.blt f M.F_value_allFormed_1 then (bif Nat.blt f M.F_arith_Do then (cl f M.F_prim_input_all M.m_prim_input_all 11 M.rs_prim_input_all) else (cl f M.F_arith_Do M.m_arith_Do 39 M.rs_arith_Do)) else (bif Nat.blt f M.F_stringslite_TrimPrefix then (cl f M.F_value_allFormed_1 M.m_value_allFormed_1 6 M.rs_value_allFormed_1) else (cl f M.F_stringslite_TrimPrefix M.m_stringslite_TrimPrefix 13 M.rs_stringslite_TrimPrefix))))) else (bif Nat.blt f M.F_tens_split then (bif Nat.blt f M.F_arith_answer_told then (bif Nat.blt f M.F_prim_input_all_1 then (cl f M.F_stringslite_HasPrefix M.m_stringslite_HasPrefix 18 M.rs_stringslite_HasPrefix) else (bif Nat.blt f M.F_arith_right then (cl f M.F_prim_input_all_1 M.m_prim_input_all_1 8 M.rs_prim_input_all_1) else (cl f M.F_arith_right M.m_arith_right 6 M.rs_arith_right))) else (bif Nat.blt f M.F_arith_right_1 then (bif Nat.blt f M.F_arith_operations then (cl f M.F_arith_answer_told M.m_arith_answer_told 12 M.rs_arith_answer_told) else (cl f M.F_arith_operations M.m_arith_operations 2 M.rs_arith_operations)) else (bif Nat.blt f M.F_arith_pair_add then (cl f M.F_arith_right_1 M.m_arith_right_1 6 M.rs_arith_right_1) else (cl f M.F_arith_pair_add M.m_arith_pair_add 76 M.rs_arith_pair_add)))) else (bif Nat.blt f M.F_arith_number then (bif Nat.blt f M.F_arith_pair_both then (bif Nat.blt f M.F_arith_good then (cl f M.F_tens_split M.m_tens_split 10 M.rs_tens_split) else (cl f M.F_arith_good M.m_arith_good 5 M.rs_arith_good)) else (bif Nat.blt f M.F_tens_Add then (cl f M.F_arith_pair_both M.m_arith_pair_both 17 M.rs_arith_pair_both) else (cl f M.F_tens_Add M.m_tens_Add 52 M.rs_tens_Add))) else (bif Nat.blt f M.F_tens_plus then (bif Nat.blt f M.F_tens_signed then (cl f M.F_arith_number M.m_arith_number 6 M.rs_arith_number) else (cl f M.F_tens_signed M.m_tens_signed 13 M.rs_tens_signed)) else (bif Nat.blt f M.F_tens_text then (cl f M.F_tens_plus M.m_tens_plus 78 M.rs_tens_plus) else (cl f M.F_tens_text M.m_tens_text 26 M.rs_tens_text))))))
theorem tab_ok (f:Nat) (m:MC) (nt:Nat) (rs:List RV) (h:tab f=some (m,nt,rs)):mfOf prog f=some (m,nt,rs):=(nd_ok (nd_ok (nd_ok (nd_ok (cl_ok h_value_Formed) (nd_ok (cl_ok h_slices_ContainsFunc_Value) (cl_ok h_value_Weight))) (nd_ok (nd_ok (cl_ok h_value_Twin) (cl_ok h_prim_input_add)) (nd_ok (cl_ok h_value_empty) (cl_ok h_tens_Formed)))) (nd_ok (nd_ok (cl_ok h_value_allFormed) (nd_ok (cl_ok h_slices_IndexFunc_Value) (cl_ok h_strings_TrimPrefix))) (nd_ok (nd_ok (cl_ok h_prim_input_all) (cl_ok h_arith_Do)) (nd_ok (cl_ok h_value_allFormed_1) (cl_ok h_stringslite_TrimPrefix))))) (nd_ok (nd_ok (nd_ok (cl_ok h_stringslite_HasPrefix) (nd_ok (cl_ok h_prim_input_all_1) (cl_ok h_arith_right))) (nd_ok (nd_ok (cl_ok h_arith_answer_told) (cl_ok h_arith_operations)) (nd_ok (cl_ok h_arith_right_1) (cl_ok h_arith_pair_add)))) (nd_ok (nd_ok (nd_ok (cl_ok h_tens_split) (cl_ok h_arith_good)) (nd_ok (cl_ok h_arith_pair_both) (cl_ok h_tens_Add))) (nd_ok (nd_ok (cl_ok h_arith_number) (cl_ok h_tens_signed)) (nd_ok (cl_ok h_tens_plus) (cl_ok h_tens_text)))))) h
theorem v_slices_Clone_string (fl:Bool) (xs:List (List PV)) (hx:xs.length≤68719476736):RetO prog M.F_slices_Clone_string [.vec 1 fl xs] 1 xs:=by
 refine RetO.go hmix h_slices_Clone_string (by simp) fun hb w0 F0 hG=>?_
 simp
 omega
theorem v_slices_Clone_Value (fl:Bool) (xs:List (List PV)) (hx:xs.length≤68719476736):RetO prog M.F_slices_Clone_Value [.vec 5 fl xs] 5 xs:=by
 refine RetO.go hmix h_slices_Clone_Value (by simp) fun hb w0 F0 hG=>?_
 simp
 omega
def X0:Ext:=fun f args=>match args with
 | [.vec e _ xs]=>if (f == M.F_slices_Clone_string&&e == 1||f == M.F_slices_Clone_Value&&e == 5)&&Nat.ble xs.length 1000 then some (.own e xs) else none
 | _=>none
theorem X0_ok:CpOk prog X0:=fun f args=>by
 have key:∀ r,X0 f args=some r→∃ e fl xs,args=[.vec e fl xs]∧r=.own e xs∧RetO prog f [.vec e fl xs] e xs:=fun r h=>by
  unfold X0 at h
  split at h
  ·rename_i e fl xs
   split at h
   ·rename_i hc
    cases h
    refine⟨e,fl,xs,rfl,rfl,?_⟩
    simp only[Bool.and_eq_true,Bool.or_eq_true,beq_iff_eq] at hc
    obtain⟨hc,hl⟩:=hc
    have hl:xs.length≤68719476736:=Nat.le_trans (Nat.le_of_ble_eq_true hl) (by decide)
    rcases hc with ⟨rfl,rfl⟩|⟨rfl,rfl⟩
    ·exact v_slices_Clone_string fl xs hl
    ·exact v_slices_Clone_Value fl xs hl
   ·cases h
  ·cases h
 refine⟨fun r h=>?_,fun esz xs h=>?_⟩
 ·obtain⟨_,_,_,_,hr,_⟩:=key _ h
  cases hr
 ·obtain⟨e,fl,ys,ha,hr,hk⟩:=key _ h
  cases hr
  rw[ha]; exact hk
def md (f:Nat):Bool:=([]:List Nat).contains f
theorem ev_ret {F:Nat} {args:List PV} {r:PV} (h:cpIn tab (ev X0 tab md 1000) F args=some (.val r)):Ret prog F args r:=(cpIn_ok tab_ok (ev_ok (mode:=md) X0_ok hmix tab_ok 1000) F args).1 r h
def num2:List PV:=[.int .i64 3,.str ⟨#[50]⟩,.str ⟨#[]⟩,.vec 5 false [],.vec 1 false []]
def num5:List PV:=[.int .i64 3,.str ⟨#[53]⟩,.str ⟨#[]⟩,.vec 5 false [],.vec 1 false []]
def num7:List PV:=[.int .i64 3,.str ⟨#[55]⟩,.str ⟨#[]⟩,.vec 5 false [],.vec 1 false []]
def rowA:List PV:=[.int .i64 5,.str ⟨#[]⟩,.str ⟨#[]⟩,.vec 5 false [num2,num5],.vec 1 false []]
set_option maxRecDepth 1000000 in
theorem v_add:Ret prog M.F_prim_input_add [.agg (rowA++[.vec 5 false []])] (.tup [.agg num7,.bool true]):=ev_ret (by kernel_rfl)
end Go.Proofs.YtnlfgnelfooljaaGreatDoor.Pv
set_option maxRecDepth 100000
namespace Go.Proofs.YtnlfgnelfooljaaGreatDoor.Pv
open Go Go.RowKit Go.Maps
theorem do2_idle (x y z:Value) (w:World):CallsD prog M.F_prim_Do_2 #[x,y,z] .returning w fun e u' w'=>e=.returned (.tuple #[])∧u'=.returning∧w'=w:=by
 refine callsD_of_wpS Tryz.func18 rfl fun c₀ cs hu=>?_
 apply wpS_seq
 apply wpS_region
 simp[wpOpsS,go_sem,recoverD,hu,Tryz.ntmps18,Exit.thenS]
 apply wpS_seq
 apply wpS_region
 simp[wpOpsS,go_sem,recoverD,hu,Tryz.ntmps18,Exit.thenS]
 refine wpS_cond (t:=false) (by simp[Act.eval,Array.replicate]) ?_
 simp only[Bool.false_eq_true,if_false]
 refine wpS_of_wp (wp_skip ?_)
 cases c₀
 simp_all [bodyPostS,results,Tryz.results18]
theorem do_body:∃ (x0 x1 x2 x3:Code) (i:Nat) (r:Array Oper) (o1 o2:Oper) (cl:Call),Tryz.f9.body=some (.seq x0 (.seq x1 (.seq x2 (.seq (.region i r false) x3))))∧r.toList=[o1,o2] ∧
 (o1.guard=none∧o1.dst=some 33∧o1.op=.makeFunc (.func M.F_prim_Do_2) #[] #[.tmp 6,.tmp 7,.tmp 8])∧(o2.guard=none∧o2.dst=none∧o2.op=.defer cl∧cl.callee=.value (.tmp 33)∧cl.args=#[]) :=
 ⟨_,_,_,_,_,_,_,_,_,rfl,rfl,⟨rfl,rfl,rfl⟩,⟨rfl,rfl,rfl,rfl,rfl⟩⟩
theorem defer_run {P:Program} {r:Array Oper} {Q:Exit→Act→World→Prop} {o1 o2:Oper} {cl:Call} {F k:Nat} {xs:Array Operand} {a:Act} {w:World} (g1:o1.guard=none) (d1:o1.dst=some k) (p1:o1.op=.makeFunc (.func F) #[] xs) (g2:o2.guard=none) (d2:o2.dst=none) (p2:o2.op=.defer cl) (hcl:cl.callee=.value (.tmp k)) (hargs:cl.args=#[]) (hk:k<a.tmps.size)
 (hQ:Q .normal { (a.put (some k) (.func (.func F) #[] (xs.map a.eval))) with defers:={ target:=.fn (.func F) (xs.map a.eval),args:=#[] }::a.defers } w):wpList P r Q [o1,o2] a w:=by
 refine wpList_plain g1 fun K hK=>?_
 unfold Oper.wp
 have e1:(execOp a.eval o1).run P w=.ok (.value (.func (.func F) #[] (xs.map a.eval))) w:=by
  simp[execOp,p1,Instr.makeFunc]
 rw[e1]
 show K (a.put o1.dst (.func (.func F) #[] (xs.map a.eval))) w
 rw[d1]
 refine hK _ _ ?_
 refine wpList_plain g2 fun K hK=>?_
 unfold Oper.wp
 have ev:(a.put (some k) (.func (.func F) #[] (xs.map a.eval))).eval (.tmp k)=.func (.func F) #[] (xs.map a.eval):=by
  simp[Act.put,Act.eval,hk]
 have e2:(execOp (a.put (some k) (.func (.func F) #[] (xs.map a.eval))).eval o2).run P w=.ok (.defer { target:=.fn (.func F) (xs.map a.eval),args:=#[] }) w:=by
  simp[execOp,p2,resolve,hcl,hargs,ev,Deferred.ofValue,Result.andThen]
 rw[e2]
 simp only[Oper.upon,d2]
 refine hK _ _ (wpList_nil ?_)
 exact hQ
def addS:ByteArray:=⟨#[97,100,100]⟩
def addK:ByteArray:=⟨#[97,100,100,47,48]⟩
theorem key_add:keyS addS 0=addK:=by
 have h:itoaS 0=⟨#[48]⟩:=by
  unfold itoaS
  simp[Lib.itoa,Lib.decDigits]
 unfold keyS
 rw[h]; rfl
theorem look_add:lookF addK primT=.tup [.fn M.F_prim_input_add [] [],.bool true]:=by kernel_rfl
end Go.Proofs.YtnlfgnelfooljaaGreatDoor.Pv
set_option maxRecDepth 100000
namespace Go.Proofs.YtnlfgnelfooljaaGreatDoor.Pv
open Go Go.RowKit Go.Maps Go.Tidy
abbrev inV (v:Val) (l:List Val):List PV:=cV v++[.vec 5 false (l.map encVal)]
abbrev dH (v8 v7 v6 v4:Nat) (v:Val):List (Key × Option HE):=[((8,v8),some ⟨1,[[.bool false]],false,true⟩),((7,v7),some ⟨5,[M.z3],false,true⟩),((6,v6),some ⟨5,[M.z3],false,true⟩),((4,v4),some ⟨5,[cV v],false,true⟩)]
abbrev dS (v8 v7 v6 v4:Nat) (s:S) (v:Val) (l:List Val):List (Nat × PV):=[(8,.ptr (8,v8) 1 0 0),(7,.ptr (7,v7) 5 0 0),(6,.ptr (6,v6) 5 0 0),(4,.ptr (4,v4) 5 0 0),(0,.str s),(1,.agg (cV v)),(2,.vec 5 false (l.map encVal))]
abbrev outV (y:Val):PV:=.tup [.agg (cV y),.agg [.int .i64 0,.str ⟨#[]⟩,.str ⟨#[]⟩,.vec 5 false [],.vec 1 false []],.bool true]
set_option maxHeartbeats 4000000 in
theorem c_prim_Do (s:S) (f:Nat) (v:Val) (l:List Val) (y:Val) (hs:s.size≤140737488355000) (hl:l.length≤100) (hkey:lookF (keyS s l.length) primT=.tup [.fn f [] [],.bool true])
 (hv:formedV v=true) (hal:l.all formedV=true) (hf:Ret prog f [.agg (inV v l)] (.tup [.agg (cV y),.bool true])) (hw:weightV y≤1048576) :
 Ret prog M.F_prim_Do [.str s,.agg (cV v),.vec 5 false (l.map encVal)] (outV y):=by
 have ct:=c_prim_table
 have ck:=c_prim_key s l.length hs
 have cF:=c_value_Formed v
 rw[hv] at cF
 have cN:Ret prog M.F_slices_ContainsFunc_Value [.vec 5 false (l.map encVal),.fn M.F_prim_Do_1 [] []] (.bool false):=by
  have:=c_slices_ContainsFunc_Value l M.F_prim_Do_1 [] (fun v=>!formedV v) (fun _=>rfl) (fun _=>rfl) (fun _=>trivial) fun x hx=>c_prim_Do_1 x
  rwa [show (l.any fun v=>!formedV v)=false by rw[List.any_eq_false]; intro x hx; simpa using List.all_eq_true.1 hal x hx] at this
 have cW:=c_value_Weight y (by omega)
 have cT:=c_value_Twin y (by omega)
 obtain⟨fn,c,hfn,hc,hb,hnt,htm,hrs⟩:=mfOf_spec h_prim_Do
 obtain rfl:fn=Tryz.f9:=Option.some.inj (hfn.symm.trans Tryz.func9)
 obtain⟨x0,x1,x2,x3,i,r,o1,o2,cl,hb2,hr,⟨g1,d1,p1⟩,⟨g2,d2,p2,k2,a2⟩⟩:=do_body
 obtain rfl:c=.seq x0 (.seq x1 (.seq x2 (.seq (.region i r false) x3))):=Option.some.inj (hb.symm.trans hb2)
 obtain⟨y0,z0,e0,t0,u0⟩:=toMC_seq htm
 cases e0
 obtain⟨y1,z1,e1,t1,u1⟩:=toMC_seq u0
 cases e1
 obtain⟨y2,z2,e2,t2,u2⟩:=toMC_seq u1
 cases e2
 obtain⟨y3,z3,e3,t3,u3⟩:=toMC_seq u2
 cases e3
 refine⟨hc,fun w F vs hG hF hr'=>calls_of_wp_defers hfn hb ?_⟩
 have hg0:=init_good (nt:=55) hG hF hr' (by simp)
 rw[← hnt]
 refine wp_seq (wp_mono (exec_sound (E:=⟨prog,w,F,55,[],0,hG⟩) hmix x0 (.reg [M.o 4 (.box (.t 1)),M.o 6 (.alloc M.z3),M.o 7 (.alloc M.z3),M.o 8 (.alloc [(.bool false)])]) _ _ w (fun e st'=>e=.normal∧∃ v8 v7 v6 v4,st'=⟨dS v8 v7 v6 v4 s v l,dH v8 v7 v6 v4 v⟩) t0 ⟨_,hg0⟩ ?_) ?_)
 ·show XC _ _ _ [] _
  simp
 rintro e a1 w1 ⟨ex,st',rfl,⟨rfl,v8,v7,v6,v4,rfl⟩,hr1⟩
 refine wp_seq (wp_mono (exec_sound (E:=⟨prog,w,F,55,[],0,hG⟩) hmix x1 (.reg [M.o 12 (.call M.F_prim_table []),M.o 13 (.mv (.t 0)),M.o 14 (.mv (.t 2)),M.o 15 (.len (.t 14)),M.o 16 (.call M.F_prim_key [(.t 13),(.t 15)]),M.o 17 (.look (.t 12) (.t 16)),M.o 11 (.mv (.t 17)),M.o 18 (.ext (.t 11) 0),M.o 19 (.ext (.t 11) 1),M.o 9 (.mv (.t 18)),M.o 10 (.mv (.t 19))]) _ _ w1 (fun e st'=>e=.normal∧LS st' ⟨(10,.bool true)::(9,.fn f [] [])::dS v8 v7 v6 v4 s v l,dH v8 v7 v6 v4 v⟩) t1 hr1 ?_) ?_)
 ·show XC _ _ _ [] _
  simp
  refine XCall.ret (by first|exact ct|(simpa using ct)) ?_
  simp
  refine XCall.ret (by first|exact ck|(simpa using ck)) ?_
  simp[hkey]
 rintro e b2 w2 ⟨ex,st',rfl,⟨rfl,hls⟩,hr2⟩
 have hr2':=hls.le _ _ hr2
 refine wp_seq (wp_mono (exec_sound (E:=⟨prog,w,F,55,[],0,hG⟩) hmix x2 _ _ _ w2 (fun e st'=>e=.normal∧LS st' ⟨(9,.fn f [] [])::dS v8 v7 v6 v4 s v l,dH v8 v7 v6 v4 v⟩) t2 hr2' ?_) ?_)
 ·show XC _ _ _ [] _
  simp
  refine XCall.ret (r:=.bool true) (by first|exact cF|(simpa using cF)) ?_
  simp
  refine XCall.ret (r:=.bool false) (by first|exact cN|(simpa using cN)) ?_
  simp
 rintro e a3 w3 ⟨ex,st',rfl,⟨rfl,hls3⟩,hr3⟩
 obtain⟨c3,hg3⟩:=hls3.le _ _ hr3
 refine wp_seq (wp_region_list ?_)
 rw[hr]
 have hs3:a3.tmps.size=55:=hg3.size
 refine defer_run g1 d1 p1 g2 d2 p2 k2 a2 (by omega) ?_
 obtain⟨caps,hcaps⟩ : ∃ caps:Array Value,caps=(#[.tmp 6,.tmp 7,.tmp 8]:Array Operand).map a3.eval:=⟨_,rfl⟩
 rw[← hcaps]
 have hh:=hg3.hgood
 have hg4:Good ⟨prog,w,F,55,[(.undef,.func (.func M.F_prim_Do_2) #[] caps)],0,hG⟩ ⟨(9,.fn f [] [])::dS v8 v7 v6 v4 s v l,dH v8 v7 v6 v4 v⟩ c3 { a3.put (some 33) (.func (.func M.F_prim_Do_2) #[] caps) with defers:={ target:=.fn (.func M.F_prim_Do_2) caps,args:=#[] }::a3.defers } w3:=by
  refine Good.ofH ?_ ?_ ⟨hh.heap,hh.fresh,hh.apart,hh.fz,hh.le,hh.bnd,hh.below⟩ (fun t v hv=>?_) (fun p hp=>?_)
  ·have:=hg3.defers
   simp only[this]
   rfl
  ·simpa[Act.put] using hs3
  ·by_cases ht:t=33
   ·subst ht
    show RepV w3 c3 (lk 33 _) v
    simp[lk]
    trivial
   ·have hv' : a3.tmps[t]? = some v:=by
       have:=putSlot (a:=a3) (d:=33) (t:=t) (v:=.func (.func M.F_prim_Do_2) #[] caps) ht
       rw[← this]; exact hv
    exact hg3.slot t v hv'
  ·simp only[List.mem_singleton] at hp
   subst hp
   trivial
 show Code.wp _ x3 _ _ w3
 refine wp_mono (exec_sound (E:=⟨prog,w,F,55,[(.undef,.func (.func M.F_prim_Do_2) #[] caps)],0,hG⟩) hmix x3 _ _ _ w3 (retIs M.rs_prim_Do (outV y)) u3 ⟨_,hg4⟩ ?_) ?_
 ·show XC _ _ _ [] _
  simp
  refine XCall.ret (r:=.tup [.agg (cV y),.bool true]) (by first|exact hf|(simpa using hf)) ?_
  simp
  refine XCut.go hmix ?_
  simp
  refine XCall.ret (r:=.int .i64 (weightV y)) (by first|exact cW|(simpa using cW)) ?_
  have hw' : ¬ (1048576:Int)<weightV y:=by omega
  simp[hw']
  refine XCall.ret (r:=.agg (cV y)) (by first|exact cT|(simpa using cT)) ?_
  simp
 rintro e a4 w4 ⟨ex,st',rfl,hq,c4,hg5⟩
 have hcap:caps=#[a3.eval (.tmp 6),a3.eval (.tmp 7),a3.eval (.tmp 8)]:=by rw[hcaps]; simp
 have key:∀ q:resOk st' M.rs_prim_Do∧okV (fun k=>hk k st'.h) (resAll st' M.rs_prim_Do)∧reify (fun k=>hk k st'.h) (resAll st' M.rs_prim_Do)=outV y,Leaves prog Tryz.f9 a4.tmps (fun e w'=>∃ v F',e=Ending.returned v∧Bel w.heap.size w w'∧(∀ b,F b→F' b)∧(∀ b,F' b→b<w'.heap.size∧(F b∨w.heap.size≤b))∧RepV w' (dctx F') (outV y) v) a4.defers .returning w4:=by
  rintro⟨q1,q2,q3⟩
  have hd:=hg5.defers
  rw[hd]
  show Leaves prog Tryz.f9 a4.tmps _ [{ target:=.fn (.func M.F_prim_Do_2) caps,args:=#[] }] .returning w4
  refine leaves_cons (f:=M.F_prim_Do_2) (args:=caps) (by simp) (by simp[invoke,go_sem]) ?_
  rw[hcap]
  refine (do2_idle _ _ _ w4).mono ?_
  rintro e u' w5 ⟨rfl,rfl,rfl⟩
  obtain⟨v,k1,k2'⟩:=resAll_run hg5 hrs q1
  have hfz:=hg5.hgood.freeze (keysOf (fun k=>hk k st'.h) (resAll st' M.rs_prim_Do))
  have:=reify_rep hg5.hgood (c1:=frzCtx st'.h c4 (keysOf (fun k=>hk k st'.h) (resAll st' M.rs_prim_Do))) (fun _ hb=>.inl hb) _ _ k2' q2 (fun _ hb=>.inr hb)
  rw[q3] at this
  exact⟨v,k1,v,_,rfl,hg5.below,hfz.le,hfz.fz,RepV.mono _ _ (Mono.refl _ _) (le_dctx (fun _ h=>h)) this⟩
 cases ex with
 | normal=>exact key hq
 | ret=>exact key hq
 | exit id=>exact hq.elim
 | goto l=>exact hq.elim
end Go.Proofs.YtnlfgnelfooljaaGreatDoor.Pv
set_option maxRecDepth 100000
namespace Go.Proofs.YtnlfgnelfooljaaGreatDoor.Pv
open Go Go.Tidy
def lv2:Val:=lstV [numV ⟨#[50]⟩,numV ⟨#[53]⟩]
def lv7:Val:=numV ⟨#[55]⟩
theorem c_lives_Do:Ret prog M.F_prim_Do [.str addS,.agg (cV lv2),.vec 5 false []] (outV lv7):=by
 have h1:formedV lv2=true:=by decide
 have h2:weightV lv7≤1048576:=by decide
 have hk:lookF (keyS addS 0) primT=.tup [.fn M.F_prim_input_add [] [],.bool true]:=by rw[key_add]; exact look_add
 exact c_prim_Do addS M.F_prim_input_add lv2 [] lv7 (by decide) (by decide) hk h1 rfl v_add h2
theorem c_law21_lives:Ret prog M.F_law21_lives [] (.bool true):=by
 have cd:=c_lives_Do
 have c7:=c_ref03_Like lv7
 have c0:=c_ref03_Like (Val.mk 0 emp emp [] [])
 refine Ret.go hmix h_law21_lives (by simp) fun hb w0 F0 hG=>?_
 simp only[lv7,lv2,lstV,numV,addS,Val.kind_mk,Val.num_mk,Val.text_mk,Val.items_mk,Val.keys_mk,emp] at *
 simp
 intros
 refine XCall.ret (by first|exact cd|(simpa[cV] using cd)) ?_
 simp
 intros
 refine XCall.ret (r:=.bool true) (by first|exact c7|(simpa[cV] using c7)) ?_
 simp
 refine XCall.ret (r:=.bool true) (by first|exact c0|(simpa[cV] using c0)) ?_
 simp
end Go.Proofs.YtnlfgnelfooljaaGreatDoor.Pv
set_option maxRecDepth 100000
namespace Go.Proofs.YtnlfgnelfooljaaGreatDoor.Pv
open Go Go.Tidy
theorem itoa0:itoaS 0=⟨#[48]⟩:=by
 unfold itoaS
 simp[Lib.itoa,Lib.decDigits]
theorem itoa1:itoaS 1=⟨#[49]⟩:=by
 unfold itoaS
 simp[Lib.itoa,Lib.decDigits]
def s_explode:S:=⟨#[101,120,112,108,111,100,101]⟩
theorem lk_explode:lookF ⟨#[101,120,112,108,111,100,101,47,48]⟩ primT=.tup [.fn M.F_prim_input_explode [] [],.bool true]:=by kernel_rfl
theorem look_explode:lookF (keyS s_explode 0) primT=.tup [.fn M.F_prim_input_explode [] [],.bool true]:=by
 have h:keyS s_explode 0=⟨#[101,120,112,108,111,100,101,47,48]⟩:=by
  unfold keyS
  rw[itoa0]; rfl
 rw[h]
 exact lk_explode
def s_implode:S:=⟨#[105,109,112,108,111,100,101]⟩
theorem lk_implode:lookF ⟨#[105,109,112,108,111,100,101,47,48]⟩ primT=.tup [.fn M.F_prim_input_implode [] [],.bool true]:=by kernel_rfl
theorem look_implode:lookF (keyS s_implode 0) primT=.tup [.fn M.F_prim_input_implode [] [],.bool true]:=by
 have h:keyS s_implode 0=⟨#[105,109,112,108,111,100,101,47,48]⟩:=by
  unfold keyS
  rw[itoa0]; rfl
 rw[h]
 exact lk_implode
def s_reverse:S:=⟨#[114,101,118,101,114,115,101]⟩
theorem lk_reverse:lookF ⟨#[114,101,118,101,114,115,101,47,48]⟩ primT=.tup [.fn M.F_prim_input_reverse [] [],.bool true]:=by kernel_rfl
theorem look_reverse:lookF (keyS s_reverse 0) primT=.tup [.fn M.F_prim_input_reverse [] [],.bool true]:=by
 have h:keyS s_reverse 0=⟨#[114,101,118,101,114,115,101,47,48]⟩:=by
  unfold keyS
  rw[itoa0]; rfl
 rw[h]
 exact lk_reverse
def s_split:S:=⟨#[115,112,108,105,116]⟩
theorem lk_split:lookF ⟨#[115,112,108,105,116,47,49]⟩ primT=.tup [.fn M.F_prim_input_split [] [],.bool true]:=by kernel_rfl
theorem look_split:lookF (keyS s_split 1) primT=.tup [.fn M.F_prim_input_split [] [],.bool true]:=by
 have h:keyS s_split 1=⟨#[115,112,108,105,116,47,49]⟩:=by
  unfold keyS
  rw[itoa1]; rfl
 rw[h]
 exact lk_split
def s_join:S:=⟨#[106,111,105,110]⟩
theorem lk_join:lookF ⟨#[106,111,105,110,47,49]⟩ primT=.tup [.fn M.F_prim_input_join [] [],.bool true]:=by kernel_rfl
theorem look_join:lookF (keyS s_join 1) primT=.tup [.fn M.F_prim_input_join [] [],.bool true]:=by
 have h:keyS s_join 1=⟨#[106,111,105,110,47,49]⟩:=by
  unfold keyS
  rw[itoa1]; rfl
 rw[h]
 exact lk_join
theorem c_law21_made (s:S) (v:Val) (l:List Val) (y:Val) (h:Ret prog M.F_prim_Do [.str s,.agg (cV v),.vec 5 false (l.map encVal)] (outV y)):Ret prog M.F_law21_made [.str s,.agg (cV v),.vec 5 false (l.map encVal)] (.tup [.agg (cV y),.bool true]):=by
 refine Ret.go hmix h_law21_made (by simp) fun hb w0 F0 hG=>?_
 simp
 intros
 refine XCall.ret (r:=outV y) (by first|exact h|(simpa using h)) ?_
 simp
theorem c_law21_twice (a b:S) (v y w:Val) (h1:Ret prog M.F_law21_made [.str a,.agg (cV v),.vec 5 false []] (.tup [.agg (cV y),.bool true])) (h2:Ret prog M.F_law21_made [.str b,.agg (cV y),.vec 5 false []] (.tup [.agg (cV w),.bool true])) :
 Ret prog M.F_law21_twice [.str a,.str b,.agg (cV v),.agg (cV w)] (.bool true):=by
 have h3:=c_ref03_Like w
 refine Ret.go hmix h_law21_twice (by simp) fun hb w0 F0 hG=>?_
 simp
 intros
 refine XCall.ret (r:=.tup [.agg (cV y),.bool true]) (by first|exact h1|(simpa using h1)) ?_
 simp
 intros
 refine XCall.ret (r:=.tup [.agg (cV w),.bool true]) (by first|exact h2|(simpa using h2)) ?_
 simp
 intros
 refine XCall.ret (r:=.bool true) (by first|exact h3|(simpa using h3)) ?_
 simp
theorem c_law21_light (s:S) (hs:s.size≤140737488355328):∃ b:Bool,Ret prog M.F_law21_light [.agg (cV (txtV s))] (.bool b)∧(b=true→utfB s=true∧s.size<29999):=by
 obtain⟨b,hF⟩:=c_kit_Fit1 (txtV s)
 have hG:=c_ref03_Formed (txtV s)
 rw[formed_txt] at hG
 have hW:=c_ref03_Weight_txt s hs
 refine⟨b&&(utfB s&&decide (1+s.size<30000)),?_,fun h=>?_⟩
 ·refine Ret.go hmix h_law21_light (by simp) fun hb w0 F0 hG'=>?_
  simp only[txtV,Val.kind_mk,Val.num_mk,Val.text_mk,Val.items_mk,Val.keys_mk] at *
  simp
  intros
  refine XCall.ret (r:=.bool b) (by first|exact hF|(simpa[cV] using hF)) ?_
  cases b
  ·simp
  simp
  refine XCall.ret (r:=.bool (utfB s)) (by first|exact hG|(simpa[cV] using hG)) ?_
  cases utfB s
  ·simp
  simp
  refine XCall.ret (r:=.int .i64 ((1+s.size:Nat):Int)) (by first|exact hW|(simpa[cV] using hW)) ?_
  by_cases g:1+s.size<30000
  ·have g' : (1:Int)+s.size<30000:=by omega
   simp[g,g']
  ·have g' : ¬ (1:Int)+s.size<30000:=by omega
   simp[g,g']
 ·simp only[Bool.and_eq_true,decide_eq_true_eq] at h
  exact⟨h.2.1,by omega⟩
end Go.Proofs.YtnlfgnelfooljaaGreatDoor.Pv
set_option maxRecDepth 100000
namespace Go.Proofs.YtnlfgnelfooljaaGreatDoor.Pv
open Go Go.Tidy
theorem ex_formed (s:S):formedV (exV s)=true:=by
 unfold exV
 rw[formed_lst,List.all_eq_true]
 intro v hv
 obtain⟨r,hr,rfl⟩:=List.mem_map.1 hv
 have h0:=(isRune_of_mem (s:=s) hr).1
 rw[formed_num]
 have:=num_itoa r.toNat
 rwa [Int.toNat_of_nonneg h0] at this
theorem sum_le_mul {l:List Nat} {c:Nat} (h:∀ x∈l,x≤c):l.sum≤l.length*c:=by
 induction l with
 | nil=>simp
 | cons x l ih =>
   have h1:=h x (by simp)
   have h2:=ih fun y hy=>h y (by simp[hy])
   rw[List.sum_cons,List.length_cons,Nat.add_mul]
   omega
theorem ex_weight {s:S} (h:s.size<29999):weightV (exV s)≤1048576:=by
 unfold exV
 rw[weight_lst,List.map_map]
 have h1:=sum_le_mul (l:=(runesS s).map (weightV∘fun r=>numV (itoaT r))) (c:=8) fun x hx=>by
  obtain⟨r,hr,rfl⟩:=List.mem_map.1 hx
  obtain⟨h0,h1,_⟩:=isRune_of_mem (s:=s) hr
  show weightV (numV (itoaT r))≤8
  rw[weight_num]
  obtain⟨u,rfl⟩ : ∃ u:Nat,r=u:=⟨r.toNat,by omega⟩
  rw[digs_itoa]
  have:=dec_len (u:=u) (by omega)
  omega
 have h2:=runesS_len s
 rw[List.length_map] at h1
 omega
theorem splitB_sum (sep:ByteArray):∀ (k:Nat) (s:ByteArray),((Lib.splitB sep 0 k s).map fun x=>x.size).sum≤s.size
 | 0,s=>by simp[Lib.splitB]
 | k+1,s=>by
   unfold Lib.splitB
   split
   ·simp
   ·rename_i hi
    rcases Lib.indexB_cases s sep with h|⟨i,h1,h2⟩
    ·rw[h] at hi; simp at hi
    ·have:=splitB_sum sep k (s.extract ((Lib.indexB s sep).toNat+sep.size) s.size)
     rw[h1] at this ⊢
     rw[List.map_cons,List.sum_cons,ByteArray.size_extract]
     rw[ByteArray.size_extract] at this
     simp at this ⊢
     omega
theorem join_len (sep:List UInt8):∀ l:List (List UInt8),(Lib.join l sep).length=(l.map List.length).sum+(l.length-1)*sep.length
 | []=>by simp[Lib.join]
 | [x]=>by simp[Lib.join]
 | x::y::l=>by
   have h:=join_len sep (y::l)
   unfold Lib.join at h ⊢
   rw[List.intercalate_cons_cons,List.length_append,List.length_append,h]
   simp only[List.map_cons,List.sum_cons,List.length_cons]
   rw[show l.length+1+1-1=(l.length+1-1)+1 by omega,Nat.add_mul]
   omega
theorem pcs_spec {s b:S} (hs:s.size<29999) (hu:utfB s=true) (hv:utfB b=true) (h0:1≤b.size):let P:=if sEmp s then [] else piecesS s b
 (∀ x∈P,utfB x=true)∧weightV (lstV (P.map txtV))≤1048576∧P.length≤1048576∧joinW P b P.length≤1048576∧(Lib.join (P.map (·.data.toList)) b.data.toList).length≤1000000000∧(⟨(Lib.join (P.map (·.data.toList)) b.data.toList).toArray⟩ : S)=s:=by
 intro P
 cases e:sEmp s
 ·have hP:P=piecesS s b:=by show (if sEmp s then [] else piecesS s b)=_; rw[e]; rfl
  rw[hP]
  obtain⟨q1,q2⟩:=pieces_utf hu hv (by
   intro h
   have e1:b.size=b.data.toList.length:=rfl
   rw[h,List.length_nil] at e1; omega)
  have hle:=Lib.countB_le b h0 s.size s (Nat.le_refl _)
  have hlen:(piecesS s b).length=Lib.countB s b+1:=Lib.splitB_all b h0 0 _ s rfl
  have hsum:((piecesS s b).map fun x=>x.size).sum≤s.size:=splitB_sum b _ s
  have hjl:=join_len b.data.toList ((piecesS s b).map (·.data.toList))
  rw[q2] at hjl ⊢
  have hsz:s.data.toList.length=s.size:=rfl
  have hbz:b.data.toList.length=b.size:=rfl
  have hmm:(((piecesS s b).map (·.data.toList)).map List.length)=(piecesS s b).map fun x=>x.size:=by
   rw[List.map_map]; rfl
  rw[hmm,hsz,hbz,List.length_map] at hjl
  refine⟨q1,?_,by omega,?_,by omega,by simp⟩
  ·rw[weight_lst,List.map_map]
   have:((piecesS s b).map (weightV∘txtV)).sum=(piecesS s b).length+((piecesS s b).map fun x=>x.size).sum:=by
    generalize piecesS s b=l
    induction l with
    | nil=>rfl
    | cons x l ih =>
      simp only[List.map_cons,List.sum_cons,List.length_cons,ih,Function.comp,weight_txt]
      omega
   omega
  ·unfold joinW
   rw[List.take_of_length_le (by simp)]
   omega
 ·have hP:P=[]:=by show (if sEmp s then [] else piecesS s b)=_; rw[e]; rfl
  rw[hP]
  refine⟨by simp,by decide,by simp,by simp[joinW],by simp[Lib.join],?_⟩
  unfold sEmp at e
  rw[List.isEmpty_iff] at e
  obtain⟨d⟩:=s
  have:d=#[]:=by
   apply Array.ext'
   simpa using e
  rw[this]; rfl
set_option maxHeartbeats 8000000 in
theorem c_law21_PrimTexts (s b:S) (hs:s.size≤140737488355328) (hb:b.size≤140737488355328):Ret prog M.F_law21_PrimTexts [.str s,.str b] (.bool true):=by
 have cL:=c_law21_lives
 obtain⟨q1,l1,f1⟩:=c_law21_light s hs
 obtain⟨q2,l2,f2⟩:=c_law21_light b hb
 cases q1
 ·refine Ret.go hmix h_law21_PrimTexts (by simp) fun hb w0 F0 hG=>?_
  simp only[txtV] at *
  simp
  refine XCall.ret (by first|exact cL|(simpa using cL)) ?_
  simp
  intros
  refine XCall.ret (r:=.bool false) (by first|exact l1|(simpa[cV] using l1)) ?_
  simp
 cases q2
 ·refine Ret.go hmix h_law21_PrimTexts (by simp) fun hb w0 F0 hG=>?_
  simp only[txtV] at *
  simp
  refine XCall.ret (by first|exact cL|(simpa using cL)) ?_
  simp
  intros
  refine XCall.ret (r:=.bool true) (by first|exact l1|(simpa[cV] using l1)) ?_
  simp
  refine XCall.ret (r:=.bool false) (by first|exact l2|(simpa[cV] using l2)) ?_
  simp
 obtain⟨u1,z1⟩:=f1 rfl
 obtain⟨u2,z2⟩:=f2 rfl
 have hv1:formedV (txtV s)=true:=by rw[formed_txt]; exact u1
 have hv2:formedV (txtV b)=true:=by rw[formed_txt]; exact u2
 have hrl:=runesS_len s
 have hR:∀ r∈runesS s,isRune r:=fun r hr=>isRune_of_mem hr
 have d1:=c_law21_made s_explode (txtV s) [] (exV s) (c_prim_Do s_explode M.F_prim_input_explode (txtV s) [] (exV s) (by decide) (by decide) look_explode hv1 rfl (c_input_explode s (by omega)) (ex_weight z1))
 have i1:=c_input_implode (runesS s) hR (by omega)
 rw[encS_runes u1] at i1
 have wt:weightV (txtV s)≤1048576:=by rw[weight_txt]; omega
 have d2:=c_law21_made s_implode (exV s) [] (txtV s) (c_prim_Do s_implode M.F_prim_input_implode (exV s) [] (txtV s) (by decide) (by decide) look_implode (ex_formed s) rfl i1 wt)
 have t1:=c_law21_twice s_explode s_implode (txtV s) (exV s) (txtV s) d1 d2
 have ho:∀ r∈(runesS s).reverse,isRune r:=fun r hr=>hR r (List.mem_reverse.1 hr)
 have hel:=encS_len (runesS s).reverse
 rw[List.length_reverse] at hel
 have hv3:formedV (txtV (encS (runesS s).reverse))=true:=by rw[formed_txt]; exact utf_enc ho
 have d3:=c_law21_made s_reverse (txtV s) [] (txtV (encS (runesS s).reverse)) (c_prim_Do s_reverse M.F_prim_input_reverse (txtV s) [] _ (by decide) (by decide) look_reverse hv1 rfl (c_input_reverse_txt s (by omega)) (by rw[weight_txt]; omega))
 have i4:=c_input_reverse_txt (encS (runesS s).reverse) (by omega)
 rw[turned_back u1] at i4
 have d4:=c_law21_made s_reverse (txtV (encS (runesS s).reverse)) [] (txtV s) (c_prim_Do s_reverse M.F_prim_input_reverse _ [] _ (by decide) (by decide) look_reverse hv3 rfl i4 wt)
 have t2:=c_law21_twice s_reverse s_reverse (txtV s) _ (txtV s) d3 d4
 have cK:=c_ref03_Like (txtV s)
 by_cases hbz:sEmp b=true
 ·refine Ret.go hmix h_law21_PrimTexts (by simp) fun hb w0 F0 hG=>?_
  simp only[txtV,s_explode,s_implode,s_reverse] at *
  simp
  refine XCall.ret (by first|exact cL|(simpa using cL)) ?_
  simp
  intros
  refine XCall.ret (r:=.bool true) (by first|exact l1|(simpa[cV] using l1)) ?_
  simp
  refine XCall.ret (r:=.bool true) (by first|exact l2|(simpa[cV] using l2)) ?_
  simp
  refine XCall.ret (r:=.bool true) (by first|exact t1|(simpa[cV] using t1)) ?_
  simp
  refine XCall.ret (r:=.bool true) (by first|exact t2|(simpa[cV] using t2)) ?_
  simp[hbz]
 ·have h0:1≤b.size:=by
     unfold sEmp at hbz
     rw[List.isEmpty_iff] at hbz
     have:b.size=b.data.toList.length:=rfl
     have:=List.length_pos_iff.2 hbz
     omega
  obtain⟨p1,p2,p3,p4,p5,p6⟩:=pcs_spec z1 u1 u2 h0
  have i5:=c_input_split s b (by omega) h0
  have i6:=c_input_join (if sEmp s then [] else piecesS s b) b p1 (by omega) p3 p4 p5
  rw[p6] at i6
  have hv5:formedV (lstV ((if sEmp s then [] else piecesS s b).map txtV))=true:=by
   rw[formed_lst,List.all_eq_true]
   intro v hv
   obtain⟨x,hx,rfl⟩:=List.mem_map.1 hv
   rw[formed_txt]; exact p1 x hx
  generalize (if sEmp s then [] else piecesS s b)=P at *
  have hal : [txtV b].all formedV=true:=by simp[hv2]
  have d5:=c_law21_made s_split (txtV s) [txtV b] (lstV (P.map txtV)) (c_prim_Do s_split M.F_prim_input_split (txtV s) [txtV b] _ (by decide) (by simp) look_split hv1 hal (by simpa[cV] using i5) p2)
  have d6:=c_law21_made s_join (lstV (P.map txtV)) [txtV b] (txtV s) (c_prim_Do s_join M.F_prim_input_join _ [txtV b] _ (by decide) (by simp) look_join hv5 hal (by simpa[cV] using i6) wt)
  generalize lstV (P.map txtV)=Y at *
  refine Ret.go hmix h_law21_PrimTexts (by simp) fun hb w0 F0 hG=>?_
  simp only[txtV,s_explode,s_implode,s_reverse,s_split,s_join] at *
  simp
  refine XCall.ret (by first|exact cL|(simpa using cL)) ?_
  simp
  intros
  refine XCall.ret (r:=.bool true) (by first|exact l1|(simpa[cV] using l1)) ?_
  simp
  refine XCall.ret (r:=.bool true) (by first|exact l2|(simpa[cV] using l2)) ?_
  simp
  refine XCall.ret (r:=.bool true) (by first|exact t1|(simpa[cV] using t1)) ?_
  simp
  refine XCall.ret (r:=.bool true) (by first|exact t2|(simpa[cV] using t2)) ?_
  simp[hbz]
  intro v1
  refine XCall.ret (r:=.tup [.agg (cV Y),.bool true]) (by first|exact d5|(simpa[cV,emp] using d5)) ?_
  simp
  intro v2 v3
  refine XCall.ret (r:=.tup [.agg (cV (Val.mk 4 emp s [] [])),.bool true]) (by first|exact d6|(simpa[cV,emp] using d6)) ?_
  simp
  intro v4
  cases hse:sEmp s
  ·simp[hse]
   refine XCall.ret (r:=.bool true) (by first|exact cK|(simpa[cV] using cK)) ?_
   simp
  ·simp[hse]
end Go.Proofs.YtnlfgnelfooljaaGreatDoor.Pv
namespace Go.Proofs.YtnlfgnelfooljaaGreatDoor.Pv
open Go
theorem primTexts_ret (x0 x1:ByteArray) (h0:x0.size≤140737488355000) (h1:x1.size≤140737488355000):Ret prog M.F_law21_PrimTexts [.str x0,.str x1] (.bool true):=c_law21_PrimTexts x0 x1 (by omega) (by omega)
end Go.Proofs.YtnlfgnelfooljaaGreatDoor.Pv
namespace Go.Tidy
open Go
end Go.Tidy
namespace Go.Proofs.YtnlfgnelfooljaaGreatDoor.Pv
open Go Go.Tidy Go.RowKit
def wOk {H:Type} (P:Program) (t:TypeId) (d:DataW H):Prop:=∀ n∈d.weights P t,n≤reachBytes
section
variable {H:Type} {enc:TypeId × Value→H} {P:Program} {W:World}
abbrev allF (W:World):Nat→Prop:=fun b=>b<W.heap.size
end
end Go.Proofs.YtnlfgnelfooljaaGreatDoor.Pv
namespace Go.Proofs.YtnlfgnelfooljaaGreatDoor
open Go Go.ChangeShapes Go.WideShapes Go.ChangeAt Go.RowKit
theorem own:ownKnob Tryz.prog.godebug=none:=by kernel_rfl
theorem laidOut:laidOutB Tryz.prog=true:=by kernel_rfl
theorem u8x:U8Extra Tryz.prog Tryz.laysValid_ren:=⟨by kernel_rfl,by kernel_rfl,by kernel_rfl,by kernel_rfl,by kernel_rfl,by kernel_rfl,by kernel_rfl⟩
theorem gtab_all:((List.range Tryz.prog.globals.size).all fun g=>match Pv.gTab Tryz.prog g with
 | none=>true
 | some cs=>(g == Tryz.laysValid_ren.g 3&&cs == Pv.utf8First)||(g == Tryz.laysValid_ren.g 4&&cs == Pv.utf8Accept))=true:=by kernel_rfl
theorem gtab_cases {g:Nat} {cs:List Nat} (h:Pv.gTab Tryz.prog g=some cs):(g=Tryz.laysValid_ren.g 3∧cs=Pv.utf8First)∨(g=Tryz.laysValid_ren.g 4∧cs=Pv.utf8Accept):=by
 have hg:g<Tryz.prog.globals.size:=by
  have h2:=h
  unfold Pv.gTab at h2
  split at h2
  ·rename_i gl hgl
   exact (Array.getElem?_eq_some_iff.1 hgl).1
  ·cases h2
 have h3:=List.all_eq_true.1 gtab_all g (List.mem_range.2 hg)
 rw[h] at h3
 simp only[Bool.or_eq_true,Bool.and_eq_true,beq_iff_eq] at h3
 exact h3
theorem cell_lt {w:World} {g j:Nat} {v:Value} (h:w.cell? ⟨g,j,none⟩=some v):g<w.heap.size:=by
 unfold World.cell? at h
 split at h
 ·rename_i hb
  exact (Array.getElem?_eq_some_iff.1 hb).1
 ·cases h
theorem first_le:∀ c:Fin 256,Lib.firstT c.1≤255:=by decide +kernel
theorem accept_le:∀ i:Fin 16,Lib.accLo i.1≤255∧Lib.accHi i.1≤255:=by decide +kernel
theorem first_len:Pv.utf8First.length=256:=by kernel_rfl
theorem accept_len:Pv.utf8Accept.length=32:=by kernel_rfl
theorem pow_eq:(Rows.laid_internal_strconv_uint64pow10:DataW Unit)=Lib.tabData .u64 Lib.pow10Tab:=by kernel_rfl
def powChk (P:Program):Bool:=match P.globalNamed "internal/strconv.uint64pow10" with
 | some g=>(match (P.globals[g]?).map (·.type) with
   | some t=>(match P.underlying t with
     | some (.array n e)=>(match P.underlying e with
       | some (.int .u64)=>P.cellsOf e == 1&&P.cellsOf t == n
       | _=>false)
     | _=>false)
   | none=>false)
 | none=>false
theorem pow_chk:powChk Tryz.prog=true:=by kernel_rfl
theorem pow_of {P:Program} (h:powChk P=true):∃ g t e n,P.globalNamed "internal/strconv.uint64pow10" = some g∧(P.globals[g]?).map (·.type)=some t∧P.underlying t=some (.array n e)∧P.underlying e=some (.int .u64)∧P.cellsOf e=1∧P.cellsOf t=n:=by
 unfold powChk at h
 split at h
 ·rename_i g hg
  split at h
  ·rename_i t ht
   split at h
   ·rename_i n e hu
    split at h
    ·rename_i hi
     simp only[Bool.and_eq_true,beq_iff_eq] at h
     exact⟨g,t,e,n,hg,ht,hu,hi,h.1,h.2⟩
    ·cases h
   ·cases h
  ·cases h
 ·cases h
theorem pow_tab {w:World} (h:Lib.VarReads Tryz.prog w "internal/strconv.uint64pow10" (Lib.tabData .u64 Lib.pow10Tab)):Lib.TabIs Tryz.prog w "internal/strconv.uint64pow10" .u64 Lib.pow10Tab:=by
 obtain⟨g,t,e,n,hg,hty,ht,he,hce,hct⟩:=pow_of pow_chk
 obtain⟨g',t',cs,fuel,p,hg',ht',hvar,hd⟩:=h
 obtain rfl:=Option.some.inj (hg.symm.trans hg')
 obtain rfl:=Option.some.inj (hty.symm.trans ht')
 unfold Lib.TabIs
 rw[hvar,← Lib.cells_of_tab ht he hce hct hd]
theorem tab_lt {P:Program} {w:World} {name:String} {k:IntKind} {zs:List Int} {g:Nat} (hg:P.globalNamed name=some g) (h:Lib.TabIs P w name k zs):g<w.heap.size:=by
 unfold Lib.TabIs World.var? at h
 rw[hg] at h
 simp only[Option.bind_some] at h
 split at h
 ·rename_i hb
  exact (Array.getElem?_eq_some_iff.1 hb).1
 ·cases h
theorem read_name {H:Type} {enc:TypeId × Value→H} {P:Program} {W:World} {t:TypeId} (ht:P.underlying t=some .string) {v:Value} {s:ByteArray} {d:DataW H} {ps:List MemPlace} (hv:v=.string s) (h:DataW.Trod enc P W 0 (fun _=>true) true t v d ps) (hw:Pv.wOk P t d):∃ x:ByteArray,Pv.RepV W (Pv.dctx (Pv.allF W)) (.str x) v∧x.size≤140737488351232:=by
 obtain⟨fuel,h⟩:=h
 subst hv
 cases fuel with
 | zero=>simp[DataW.trod] at h
 | succ k =>
   unfold DataW.trod at h
   rw[ht] at h
   simp only at h
   split at h
   all_goals (first|(cases h; done)|skip)
   all_goals (simp only[reduceCtorEq,Option.some.injEq] at *)
   rename_i s' hcs _
   split at h
   ·cases h
    have:=hw s'.data.toList.length (by unfold DataW.weights; exact List.mem_singleton.2 rfl)
    have e:s'.size=s'.data.toList.length:=rfl
    have e2:s=s':=by
     simp[Value.cells] at hcs
     exact hcs
    subst e2
    refine⟨s,⟨rfl,?_⟩,?_⟩
    ·rw[e]; unfold Pv.LIM; unfold reachBytes at this; omega
    ·rw[e]; unfold reachBytes at this; omega
   ·cases h
theorem maxlen_int {w:World} (h:w.ShapedOpen Tryz.prog):∃ m,w.cell? ⟨Tryz.laysSplit_ren.g 1,0,none⟩=some (.int .i64 m) :=
 cell_of_shapedOpen_int (t:=3) (zero:=#[.int .i64 0]) h (of_decide_eq_true (by kernel_rfl)) (by kernel_rfl) rfl (by kernel_rfl) (by kernel_rfl) Tryz.underlying3
theorem maxlen_g:Tryz.prog.globalNamed "internal/bytealg.MaxLen" = some (Tryz.laysSplit_ren.g 1):=by kernel_rfl
theorem change_and_shaped {H:Type} {enc:TypeId × Value→H} {a:Assume} {C:Checked} {os:Os} {f:FuncId} {fn:Func} {s:ChangeSpec} {conds:List PathCond} {apart fresh handsOn again:Bool} {X:World→Array Value→Prop}
 (hX:∀ (w w' : World) (args:Array Value),w.heap=w'.heap→X w args→X w' args)
 (own:ownKnob C.prog.godebug=none) (started:os.Started) (noInit:C.prog.inits.idxOf? f=none) (hfn:C.prog.funcs[f]? = some fn)
 (witness:∃ (w:World) (tape:Tape) (i:Input),w.os=os∧(w.forCall tape i).Shaped C.prog∧i.vars=[]∧Input.okWide C.prog (w.forCall tape i) .any w.heap.size f i ∧
  ((s.pre enc C.prog fn conds apart (w.forCall tape i).memory i.args∧X (w.forCall tape i).memory i.args)∧sizedMet enc C.prog fn (OpenSpec.ofChange s) apart (w.forCall tape i).memory i.args)∧a.holds C.prog (lone (Frame.enter C.prog f i.args .normal) [] (w.forCall tape i)))
 (contract:∀ (W:World) (base:Nat) (args:Array Value) (ds gs:List (DataW H)) (before:List MemPlace),
  (∀ (j:Nat) t v,fn.params[j]? = some t→args[j]? = some v→Value.okWide C.prog W .any base t v) →
  DataW.Whole enc C.prog fn.params.toList s.vars apart W args.toList ds gs before →
  conds.all (PathCond.test C.prog ⟨fn.params.toList,ds,s.plain.varTypes C.prog,gs⟩)=true →
  (DataW.weightsEach C.prog (fn.params.toList++s.plain.varTypes C.prog) (ds++gs)).all (·≤reachBytes)=true→X W args→W.ShapedOpen C.prog →
  a.holds C.prog (lone (Frame.enter C.prog f args .normal) [] W) →
  Calls C.prog f args W fun e W'=>∃ v,e=.returned v∧s.post enc C.prog fn apart fresh handsOn again W args v W') :
 ReturnsInHanded a C os f .any (fun w args=>(s.pre enc C.prog fn conds apart w args∧X w args)∧sizedMet enc C.prog fn (OpenSpec.ofChange s) apart w args) (s.post enc C.prog fn apart fresh handsOn again):=by
 refine returnsInHanded_of_calls own started noInit witness ?_
 intro w tape i _ hsh _ hok hpre hholds
 obtain⟨_,_,_,fn',hfn',_,_,_,_,hval⟩:=hok
 have e:fn'=fn:=Option.some.inj (hfn'.symm.trans hfn)
 subst e
 obtain⟨⟨⟨ds,gs,before,hw,hc⟩,hx⟩,hz⟩:=hpre
 have hw':=DataW.Whole.of_heap (w':=w.forCall tape i) (by rfl) hw
 refine (contract (w.forCall tape i) w.heap.size i.args ds gs before hval hw' hc (hz.weights hw) (hX _ _ _ (by rfl) hx) hsh hholds).mono fun e W' ⟨v,he,hp⟩=>?_
 subst he
 exact ChangeSpec.post_blind hp
theorem gok_of {w:World} (hT:Lib.Utf8Tabs (Tryz.laysValid_ren.g 3) (Tryz.laysValid_ren.g 4) w) (hP:Lib.TabIs Tryz.prog w "internal/strconv.uint64pow10" .u64 Lib.pow10Tab) (hM:∃ m,w.cell? ⟨Tryz.laysSplit_ren.g 1,0,none⟩=some (.int .i64 m)):Pv.GOk Tryz.prog w (Pv.allF w):=by
 refine⟨?_,fun t ht g hg=>by
  simp only[Pv.xTabs,List.mem_singleton] at ht
  subst ht
  exact⟨tab_lt hg hP,tab_lt hg hP,hP⟩,fun n hn g hg=>by
  simp only[Pv.xInts,List.mem_singleton] at hn
  subst hn
  obtain rfl:=Option.some.inj (maxlen_g.symm.trans hg)
  obtain⟨m,hm⟩:=hM
  exact⟨cell_lt hm,cell_lt hm,m,hm⟩⟩
 intro g cs hg
 rcases gtab_cases hg with ⟨e1,e2⟩|⟨e1,e2⟩
 ·have h0:=hT.1 0 (by omega)
  rw[← e1] at h0
  refine⟨cell_lt h0,cell_lt h0,fun j n hj=>?_⟩
  rw[e2] at hj
  have hl:j<256:=by
   have:=(List.getElem?_eq_some_iff.1 hj).1
   rw[first_len] at this; exact this
  have e:=Pv.first_at ⟨j,hl⟩
  rw[hj] at e
  have e:=Option.some.inj e
  rw[e,e1]
  exact⟨hT.1 j hl,first_le ⟨j,hl⟩⟩
 ·have h0:=(hT.2 0 (by omega)).1
  rw[← e1] at h0
  refine⟨cell_lt h0,cell_lt h0,fun j n hj=>?_⟩
  rw[e2] at hj
  have hl:j<32:=by
   have:=(List.getElem?_eq_some_iff.1 hj).1
   rw[accept_len] at this; exact this
  have hi:j / 2<16:=by omega
  rw[e1]
  by_cases hp:j % 2=0
  ·have ej:j=2*(j / 2):=by omega
   have e:=(Pv.accept_at ⟨j / 2,hi⟩).1
   simp only at e
   rw[← ej,hj] at e
   have e:=Option.some.inj e
   have h1:=(hT.2 (j / 2) hi).1
   rw[← ej] at h1
   rw[e]
   exact⟨h1,(accept_le ⟨j / 2,hi⟩).1⟩
  ·have ej:j=2*(j / 2)+1:=by omega
   have e:=(Pv.accept_at ⟨j / 2,hi⟩).2
   simp only at e
   rw[← ej,hj] at e
   have e:=Option.some.inj e
   have h1:=(hT.2 (j / 2) hi).2
   rw[← ej] at h1
   rw[e]
   exact⟨h1,(accept_le ⟨j / 2,hi⟩).2⟩
end Go.Proofs.YtnlfgnelfooljaaGreatDoor
