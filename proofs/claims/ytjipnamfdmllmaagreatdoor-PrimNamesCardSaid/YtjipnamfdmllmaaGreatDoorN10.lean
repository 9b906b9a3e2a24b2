/- Part 10. -/
import Derived.Test.YtjipnamfdmllmaaGreatDoorN9
import Derived.Defers
import Derived.Recover
import Derived.Laws.Pointers
set_option linter.unusedSimpArgs false
set_option linter.unusedVariables false
namespace Go.Proofs.YtjipnamfdmllmaaGreatDoor.Pv
open Go
def cl (f k:Nat) (m:MC) (nt:Nat) (rs:List RV):Option (MC × Nat × List RV):=bif Nat.beq f k then some (m.erase,nt,rs) else none
theorem cl_ok {f k nt:Nat} {m:MC} {rs:List RV} (hk:mfOf prog k=some (m.erase,nt,rs)) {R:MC × Nat × List RV} (h:cl f k m nt rs=some R):mfOf prog f=some R:=by
 unfold cl at h
 cases e:Nat.beq f k with
 | true=>rw[e] at h; rw[Nat.eq_of_beq_eq_true e,hk]; exact h
 | false=>rw[e] at h; cases h
theorem nd_ok {f:Nat} {c:Bool} {x y:Option (MC × Nat × List RV)} {R:MC × Nat × List RV} (hx:x=some R→mfOf prog f=some R) (hy:y=some R→mfOf prog f=some R) (h:(bif c then x else y)=some R):mfOf prog f=some R:=by
 cases c with
 | true=>exact hx h
 | false=>exact hy h
def tab (f:Nat):Option (MC × Nat × List RV):=(bif Nat.blt f M.F_stringslite_HasPrefix then (bif Nat.blt f M.F_tens_Formed then (bif Nat.blt f M.F_value_Weight then (bif Nat.blt f M.F_value_Formed then (cl f M.F_ref03_Like M.m_ref03_Like 81 M.rs_ref03_Like) else (bif Nat.blt f M.F_slices_ContainsFunc_Value then (cl f M.F_value_Formed M.m_value_Formed 61 M.rs_value_Formed) else (cl f M.F_slices_ContainsFunc_Value M.m_slices_ContainsFunc_Value 9 M.rs_slices_ContainsFunc_Value))) else (bif Nat.blt f M.F_prim_input_add then (bif Nat.blt f M.F_value_Twin then (cl f M.F_value_Weight M.m_value_Weight 43 M.rs_value_Weight) else (cl f M.F_value_Twin M.m_value_Twin 30 M.rs_value_Twin)) else (bif Nat.blt f M.F_value_empty then (cl f M.F_prim_input_add M.m_prim_input_add 118 M.rs_prim_input_add) else (cl f M.F_value_empty M.m_value_empty 43 M.rs_value_empty)))) else (bif Nat.blt f M.F_prim_input_all then (bif Nat.blt f M.F_slices_IndexFunc_Value then (bif Nat.blt f M.F_value_allFormed then (cl f M.F_tens_Formed M.m_tens_Formed 38 M.rs_tens_Formed) else (cl f M.F_value_allFormed M.m_value_allFormed 6 M.rs_value_allFormed)) else (bif Nat.blt f M.F_strings_TrimPrefix then (cl f M.F_slices_IndexFunc_Value M.m_slices_IndexFunc_Value 19 M.rs_slices_IndexFunc_Value) else (cl f M.F_strings_TrimPrefix M.m_strings_TrimPrefix 8 M.rs_strings_TrimPrefix))) else (bif Nat.blt f M.F_value_allFormed_1 then (bif Nat.blt f M.F_arith_Do then (cl f M.F_prim_input_all M.m_prim_input_all 11 M.rs_prim_input_all) else (cl f M.F_arith_Do M.m_arith_Do 39 M.rs_arith_Do)) else (bif Nat.blt f M.F_stringslite_TrimPrefix then (cl f M.F_value_allFormed_1 M.m_value_allFormed_1 6 M.rs_value_allFormed_1) else (cl f M.F_stringslite_TrimPrefix M.m_stringslite_TrimPrefix 13 M.rs_stringslite_TrimPrefix))))) else (bif Nat.blt f M.F_tens_split then (bif Nat.blt f M.F_arith_answer_told then (bif Nat.blt f M.F_prim_input_all_1 then (cl f M.F_stringslite_HasPrefix M.m_stringslite_HasPrefix 18 M.rs_stringslite_HasPrefix) else (bif Nat.blt f M.F_arith_right then (cl f M.F_prim_input_all_1 M.m_prim_input_all_1 8 M.rs_prim_input_all_1) else (cl f M.F_arith_right M.m_arith_right 6 M.rs_arith_right))) else (bif Nat.blt f M.F_arith_right_1 then (bif Nat.blt f M.F_arith_operations then (cl f M.F_arith_answer_told M.m_arith_answer_told 12 M.rs_arith_answer_told) else (cl f M.F_arith_operations M.m_arith_operations 2 M.rs_arith_operations)) else (bif Nat.blt f M.F_arith_pair_add then (cl f M.F_arith_right_1 M.m_arith_right_1 6 M.rs_arith_right_1) else (cl f M.F_arith_pair_add M.m_arith_pair_add 76 M.rs_arith_pair_add)))) else (bif Nat.blt f M.F_arith_number then (bif Nat.blt f M.F_arith_pair_both then (bif Nat.blt f M.F_arith_good then (cl f M.F_tens_split M.m_tens_split 10 M.rs_tens_split) else (cl f M.F_arith_good M.m_arith_good 5 M.rs_arith_good)) else (bif Nat.blt f M.F_tens_Add then (cl f M.F_arith_pair_both M.m_arith_pair_both 17 M.rs_arith_pair_both) else (cl f M.F_tens_Add M.m_tens_Add 52 M.rs_tens_Add))) else (bif Nat.blt f M.F_tens_plus then (bif Nat.blt f M.F_tens_signed then (cl f M.F_arith_number M.m_arith_number 6 M.rs_arith_number) else (cl f M.F_tens_signed M.m_tens_signed 13 M.rs_tens_signed)) else (bif Nat.blt f M.F_tens_text then (cl f M.F_tens_plus M.m_tens_plus 78 M.rs_tens_plus) else (cl f M.F_tens_text M.m_tens_text 26 M.rs_tens_text))))))
theorem tab_ok (f:Nat) (m:MC) (nt:Nat) (rs:List RV) (h:tab f=some (m,nt,rs)):mfOf prog f=some (m,nt,rs):=(nd_ok (nd_ok (nd_ok (nd_ok (cl_ok h_ref03_Like) (nd_ok (cl_ok h_value_Formed) (cl_ok h_slices_ContainsFunc_Value))) (nd_ok (nd_ok (cl_ok h_value_Weight) (cl_ok h_value_Twin)) (nd_ok (cl_ok h_prim_input_add) (cl_ok h_value_empty)))) (nd_ok (nd_ok (nd_ok (cl_ok h_tens_Formed) (cl_ok h_value_allFormed)) (nd_ok (cl_ok h_slices_IndexFunc_Value) (cl_ok h_strings_TrimPrefix))) (nd_ok (nd_ok (cl_ok h_prim_input_all) (cl_ok h_arith_Do)) (nd_ok (cl_ok h_value_allFormed_1) (cl_ok h_stringslite_TrimPrefix))))) (nd_ok (nd_ok (nd_ok (cl_ok h_stringslite_HasPrefix) (nd_ok (cl_ok h_prim_input_all_1) (cl_ok h_arith_right))) (nd_ok (nd_ok (cl_ok h_arith_answer_told) (cl_ok h_arith_operations)) (nd_ok (cl_ok h_arith_right_1) (cl_ok h_arith_pair_add)))) (nd_ok (nd_ok (nd_ok (cl_ok h_tens_split) (cl_ok h_arith_good)) (nd_ok (cl_ok h_arith_pair_both) (cl_ok h_tens_Add))) (nd_ok (nd_ok (cl_ok h_arith_number) (cl_ok h_tens_signed)) (nd_ok (cl_ok h_tens_plus) (cl_ok h_tens_text)))))) h
theorem v_slices_Clone_string (fl:Bool) (xs:List (List PV)) (hx:xs.length≤68719476736):RetO prog M.F_slices_Clone_string [.vec 1 fl xs] 1 xs:=by
 refine RetO.go hmix h_slices_Clone_string (by simp) fun hb w0 F0 hG=>?_
 simp
 omega
theorem v_slices_Clone_Value (fl:Bool) (xs:List (List PV)) (hx:xs.length≤68719476736):RetO prog M.F_slices_Clone_Value [.vec 5 fl xs] 5 xs:=by
 refine RetO.go hmix h_slices_Clone_Value (by simp) fun hb w0 F0 hG=>?_
 simp
 omega
def X0:Ext:=fun f args=>match args with
 | [.vec e _ xs]=>if (f == M.F_slices_Clone_string&&e == 1||f == M.F_slices_Clone_Value&&e == 5)&&Nat.ble xs.length 1000 then some (.own e xs) else none
 | _=>none
theorem X0_ok:CpOk prog X0:=fun f args=>by
 have key:∀ r,X0 f args=some r→∃ e fl xs,args=[.vec e fl xs]∧r=.own e xs∧RetO prog f [.vec e fl xs] e xs:=fun r h=>by
  unfold X0 at h
  split at h
  ·rename_i e fl xs
   split at h
   ·rename_i hc
    cases h
    refine⟨e,fl,xs,rfl,rfl,?_⟩
    simp only[Bool.and_eq_true,Bool.or_eq_true,beq_iff_eq] at hc
    obtain⟨hc,hl⟩:=hc
    have hl:xs.length≤68719476736:=Nat.le_trans (Nat.le_of_ble_eq_true hl) (by decide)
    rcases hc with ⟨rfl,rfl⟩|⟨rfl,rfl⟩
    ·exact v_slices_Clone_string fl xs hl
    ·exact v_slices_Clone_Value fl xs hl
   ·cases h
  ·cases h
 refine⟨fun r h=>?_,fun esz xs h=>?_⟩
 ·obtain⟨_,_,_,_,hr,_⟩:=key _ h
  cases hr
 ·obtain⟨e,fl,ys,ha,hr,hk⟩:=key _ h
  cases hr
  rw[ha]; exact hk
def md (f:Nat):Bool:=([]:List Nat).contains f
theorem ev_ret {F:Nat} {args:List PV} {r:PV} (h:cpIn tab (ev X0 tab md 1000) F args=some (.val r)):Ret prog F args r:=(cpIn_ok tab_ok (ev_ok (mode:=md) X0_ok hmix tab_ok 1000) F args).1 r h
def num2:List PV:=[.int .i64 3,.str ⟨#[50]⟩,.str ⟨#[]⟩,.vec 5 false [],.vec 1 false []]
def num5:List PV:=[.int .i64 3,.str ⟨#[53]⟩,.str ⟨#[]⟩,.vec 5 false [],.vec 1 false []]
def num7:List PV:=[.int .i64 3,.str ⟨#[55]⟩,.str ⟨#[]⟩,.vec 5 false [],.vec 1 false []]
def rowA:List PV:=[.int .i64 5,.str ⟨#[]⟩,.str ⟨#[]⟩,.vec 5 false [num2,num5],.vec 1 false []]
set_option maxRecDepth 1000000 in
theorem v_formed:Ret prog M.F_value_Formed [.agg rowA] (.bool true):=ev_ret (by kernel_rfl)
set_option maxRecDepth 1000000 in
theorem v_none:Ret prog M.F_slices_ContainsFunc_Value [.vec 5 false [],.fn M.F_prim_Do_1 [] []] (.bool false):=ev_ret (by kernel_rfl)
set_option maxRecDepth 1000000 in
theorem v_add:Ret prog M.F_prim_input_add [.agg (rowA++[.vec 5 false []])] (.tup [.agg num7,.bool true]):=ev_ret (by kernel_rfl)
set_option maxRecDepth 1000000 in
theorem v_weight:Ret prog M.F_value_Weight [.agg num7] (.int .i64 2):=ev_ret (by kernel_rfl)
set_option maxRecDepth 1000000 in
theorem v_twin:Ret prog M.F_value_Twin [.agg num7] (.agg num7):=ev_ret (by kernel_rfl)
def zer5:List PV:=[.int .i64 0,.str ⟨#[]⟩,.str ⟨#[]⟩,.vec 5 false [],.vec 1 false []]
set_option maxRecDepth 1000000 in
theorem v_like7:Ret prog M.F_ref03_Like [.agg num7,.agg num7] (.bool true):=ev_ret (by kernel_rfl)
set_option maxRecDepth 1000000 in
theorem v_like0:Ret prog M.F_ref03_Like [.agg zer5,.agg zer5] (.bool true):=ev_ret (by kernel_rfl)
end Go.Proofs.YtjipnamfdmllmaaGreatDoor.Pv
set_option maxRecDepth 100000
namespace Go.Proofs.YtjipnamfdmllmaaGreatDoor.Pv
open Go Go.RowKit Go.Maps
theorem do2_idle (x y z:Value) (w:World):CallsD prog M.F_prim_Do_2 #[x,y,z] .returning w fun e u' w'=>e=.returned (.tuple #[])∧u'=.returning∧w'=w:=by
 refine callsD_of_wpS Tryz.func20 rfl fun c₀ cs hu=>?_
 apply wpS_seq
 apply wpS_region
 simp[wpOpsS,go_sem,recoverD,hu,Tryz.ntmps20,Exit.thenS]
 apply wpS_seq
 apply wpS_region
 simp[wpOpsS,go_sem,recoverD,hu,Tryz.ntmps20,Exit.thenS]
 refine wpS_cond (t:=false) (by simp[Act.eval,Array.replicate]) ?_
 simp only[Bool.false_eq_true,if_false]
 refine wpS_of_wp (wp_skip ?_)
 cases c₀
 simp_all [bodyPostS,results,Tryz.results20]
theorem do_body:∃ (x0 x1 x2 x3:Code) (i:Nat) (r:Array Oper) (o1 o2:Oper) (cl:Call),Tryz.f10.body=some (.seq x0 (.seq x1 (.seq x2 (.seq (.region i r false) x3))))∧r.toList=[o1,o2] ∧
 (o1.guard=none∧o1.dst=some 33∧o1.op=.makeFunc (.func M.F_prim_Do_2) #[] #[.tmp 6,.tmp 7,.tmp 8])∧(o2.guard=none∧o2.dst=none∧o2.op=.defer cl∧cl.callee=.value (.tmp 33)∧cl.args=#[]) :=
 ⟨_,_,_,_,_,_,_,_,_,rfl,rfl,⟨rfl,rfl,rfl⟩,⟨rfl,rfl,rfl,rfl,rfl⟩⟩
theorem defer_run {P:Program} {r:Array Oper} {Q:Exit→Act→World→Prop} {o1 o2:Oper} {cl:Call} {F k:Nat} {xs:Array Operand} {a:Act} {w:World} (g1:o1.guard=none) (d1:o1.dst=some k) (p1:o1.op=.makeFunc (.func F) #[] xs) (g2:o2.guard=none) (d2:o2.dst=none) (p2:o2.op=.defer cl) (hcl:cl.callee=.value (.tmp k)) (hargs:cl.args=#[]) (hk:k<a.tmps.size)
 (hQ:Q .normal { (a.put (some k) (.func (.func F) #[] (xs.map a.eval))) with defers:={ target:=.fn (.func F) (xs.map a.eval),args:=#[] }::a.defers } w):wpList P r Q [o1,o2] a w:=by
 refine wpList_plain g1 fun K hK=>?_
 unfold Oper.wp
 have e1:(execOp a.eval o1).run P w=.ok (.value (.func (.func F) #[] (xs.map a.eval))) w:=by
  simp[execOp,p1,Instr.makeFunc]
 rw[e1]
 show K (a.put o1.dst (.func (.func F) #[] (xs.map a.eval))) w
 rw[d1]
 refine hK _ _ ?_
 refine wpList_plain g2 fun K hK=>?_
 unfold Oper.wp
 have ev:(a.put (some k) (.func (.func F) #[] (xs.map a.eval))).eval (.tmp k)=.func (.func F) #[] (xs.map a.eval):=by
  simp[Act.put,Act.eval,hk]
 have e2:(execOp (a.put (some k) (.func (.func F) #[] (xs.map a.eval))).eval o2).run P w=.ok (.defer { target:=.fn (.func F) (xs.map a.eval),args:=#[] }) w:=by
  simp[execOp,p2,resolve,hcl,hargs,ev,Deferred.ofValue,Result.andThen]
 rw[e2]
 simp only[Oper.upon,d2]
 refine hK _ _ (wpList_nil ?_)
 exact hQ
def addS:ByteArray:=⟨#[97,100,100]⟩
def addK:ByteArray:=⟨#[97,100,100,47,48]⟩
theorem key_add:keyS addS 0=addK:=by
 have h:itoaS 0=⟨#[48]⟩:=by
  unfold itoaS
  simp[Lib.itoa,Lib.decDigits]
 unfold keyS
 rw[h]; rfl
theorem look_add:lookF addK primT=.tup [.fn M.F_prim_input_add [] [],.bool true]:=by kernel_rfl
def doH (v8 v7 v6 v4:Nat) (b8 b7 b6:List PV):List (Key × Option HE):=[((8,v8),some ⟨1,[b8],false,true⟩),((7,v7),some ⟨5,[b7],false,true⟩),((6,v6),some ⟨5,[b6],false,true⟩),((4,v4),some ⟨5,[rowA],false,true⟩)]
def doS (v8 v7 v6 v4:Nat):List (Nat × PV):=[(8,.ptr (8,v8) 1 0 0),(7,.ptr (7,v7) 5 0 0),(6,.ptr (6,v6) 5 0 0),(4,.ptr (4,v4) 5 0 0),(0,.str addS),(1,.agg rowA),(2,.vec 5 false [])]
def outA:PV:=.tup [.agg num7,.agg [.int .i64 0,.str ⟨#[]⟩,.str ⟨#[]⟩,.vec 5 false [],.vec 1 false []],.bool true]
set_option maxHeartbeats 4000000 in
theorem c_prim_Do_add:Ret prog M.F_prim_Do [.str addS,.agg rowA,.vec 5 false []] outA:=by
 have ct:=c_prim_table
 have ck:=c_prim_key addS 0 (by decide)
 rw[key_add] at ck
 obtain⟨fn,c,hf,hc,hb,hnt,htm,hrs⟩:=mfOf_spec h_prim_Do
 obtain rfl:fn=Tryz.f10:=Option.some.inj (hf.symm.trans Tryz.func10)
 obtain⟨x0,x1,x2,x3,i,r,o1,o2,cl,hb2,hr,⟨g1,d1,p1⟩,⟨g2,d2,p2,k2,a2⟩⟩:=do_body
 obtain rfl:c=.seq x0 (.seq x1 (.seq x2 (.seq (.region i r false) x3))):=Option.some.inj (hb.symm.trans hb2)
 obtain⟨y0,z0,e0,t0,u0⟩:=toMC_seq htm
 cases e0
 obtain⟨y1,z1,e1,t1,u1⟩:=toMC_seq u0
 cases e1
 obtain⟨y2,z2,e2,t2,u2⟩:=toMC_seq u1
 cases e2
 obtain⟨y3,z3,e3,t3,u3⟩:=toMC_seq u2
 cases e3
 refine⟨hc,fun w F vs hG hF hr'=>calls_of_wp_defers hf hb ?_⟩
 have hg0:=init_good (nt:=55) hG hF hr' (by simp)
 rw[← hnt]
 refine wp_seq (wp_mono (exec_sound (E:=⟨prog,w,F,55,[],0,hG⟩) hmix x0 (.reg [M.o 4 (.box (.t 1)),M.o 6 (.alloc M.z3),M.o 7 (.alloc M.z3),M.o 8 (.alloc [(.bool false)])]) _ _ w (fun e st'=>e=.normal∧∃ v8 v7 v6 v4,st'=⟨doS v8 v7 v6 v4,doH v8 v7 v6 v4 [.bool false] M.z3 M.z3⟩) t0 ⟨_,hg0⟩ ?_) ?_)
 ·show XC _ _ _ [] _
  simp[rowA,doS,doH]
 rintro e a1 w1 ⟨ex,st',rfl,⟨rfl,v8,v7,v6,v4,rfl⟩,hr1⟩
 refine wp_seq (wp_mono (exec_sound (E:=⟨prog,w,F,55,[],0,hG⟩) hmix x1 (.reg [M.o 12 (.call M.F_prim_table []),M.o 13 (.mv (.t 0)),M.o 14 (.mv (.t 2)),M.o 15 (.len (.t 14)),M.o 16 (.call M.F_prim_key [(.t 13),(.t 15)]),M.o 17 (.look (.t 12) (.t 16)),M.o 11 (.mv (.t 17)),M.o 18 (.ext (.t 11) 0),M.o 19 (.ext (.t 11) 1),M.o 9 (.mv (.t 18)),M.o 10 (.mv (.t 19))]) _ _ w1 (fun e st'=>e=.normal∧LS st' ⟨(10,.bool true)::(9,.fn M.F_prim_input_add [] [])::doS v8 v7 v6 v4,doH v8 v7 v6 v4 [.bool false] M.z3 M.z3⟩) t1 hr1 ?_) ?_)
 ·show XC _ _ _ [] _
  simp[doS,doH,rowA]
  refine XCall.ret (by first|exact ct|(simpa using ct)) ?_
  simp
  refine XCall.ret (by first|exact ck|(simpa using ck)) ?_
  simp[look_add]
 rintro e b2 w2 ⟨ex,st',rfl,⟨rfl,hls⟩,hr2⟩
 have hr2':=hls.le _ _ hr2
 refine wp_seq (wp_mono (exec_sound (E:=⟨prog,w,F,55,[],0,hG⟩) hmix x2 _ _ _ w2 (fun e st'=>e=.normal∧LS st' ⟨(9,.fn M.F_prim_input_add [] [])::doS v8 v7 v6 v4,doH v8 v7 v6 v4 [.bool false] M.z3 M.z3⟩) t2 hr2' ?_) ?_)
 ·show XC _ _ _ [] _
  simp[doS,doH,rowA]
  refine XCall.ret (r:=.bool true) (by simpa[rowA] using v_formed) ?_
  simp
  refine XCall.ret (r:=.bool false) (by simpa using v_none) ?_
  simp
 rintro e a3 w3 ⟨ex,st',rfl,⟨rfl,hls3⟩,hr3⟩
 obtain⟨c3,hg3⟩:=hls3.le _ _ hr3
 refine wp_seq (wp_region_list ?_)
 rw[hr]
 have hs3:a3.tmps.size=55:=hg3.size
 refine defer_run g1 d1 p1 g2 d2 p2 k2 a2 (by omega) ?_
 obtain⟨caps,hcaps⟩ : ∃ caps:Array Value,caps=(#[.tmp 6,.tmp 7,.tmp 8]:Array Operand).map a3.eval:=⟨_,rfl⟩
 rw[← hcaps]
 have hh:=hg3.hgood
 have hg4:Good ⟨prog,w,F,55,[(.undef,.func (.func M.F_prim_Do_2) #[] caps)],0,hG⟩ ⟨(9,.fn M.F_prim_input_add [] [])::doS v8 v7 v6 v4,doH v8 v7 v6 v4 [.bool false] M.z3 M.z3⟩ c3 { a3.put (some 33) (.func (.func M.F_prim_Do_2) #[] caps) with defers:={ target:=.fn (.func M.F_prim_Do_2) caps,args:=#[] }::a3.defers } w3:=by
  refine Good.ofH ?_ ?_ ⟨hh.heap,hh.fresh,hh.apart,hh.fz,hh.le,hh.bnd,hh.below⟩ (fun t v hv=>?_) (fun p hp=>?_)
  ·have:=hg3.defers
   simp only[this]
   rfl
  ·simpa[Act.put] using hs3
  ·by_cases ht:t=33
   ·subst ht
    show RepV w3 c3 (lk 33 _) v
    simp[doS,lk]
    trivial
   ·have hv' : a3.tmps[t]? = some v:=by
       have:=putSlot (a:=a3) (d:=33) (t:=t) (v:=.func (.func M.F_prim_Do_2) #[] caps) ht
       rw[← this]; exact hv
    exact hg3.slot t v hv'
  ·simp only[List.mem_singleton] at hp
   subst hp
   trivial
 show Code.wp _ x3 _ _ w3
 refine wp_mono (exec_sound (E:=⟨prog,w,F,55,[(.undef,.func (.func M.F_prim_Do_2) #[] caps)],0,hG⟩) hmix x3 _ _ _ w3 (retIs M.rs_prim_Do outA) u3 ⟨_,hg4⟩ ?_) ?_
 ·show XC _ _ _ [] _
  simp[doS,doH,rowA]
  refine XCall.ret (r:=.tup [.agg num7,.bool true]) (by simpa[rowA] using v_add) ?_
  simp[num7]
  refine XCut.go hmix ?_
  simp
  refine XCall.ret (r:=.int .i64 2) (by simpa[num7] using v_weight) ?_
  simp
  refine XCall.ret (r:=.agg num7) (by simpa[num7] using v_twin) ?_
  simp[num7,outA]
 rintro e a4 w4 ⟨ex,st',rfl,hq,c4,hg5⟩
 have hcap:caps=#[a3.eval (.tmp 6),a3.eval (.tmp 7),a3.eval (.tmp 8)]:=by rw[hcaps]; simp
 have key:∀ q:resOk st' M.rs_prim_Do∧okV (fun k=>hk k st'.h) (resAll st' M.rs_prim_Do)∧reify (fun k=>hk k st'.h) (resAll st' M.rs_prim_Do)=outA,Leaves prog Tryz.f10 a4.tmps (fun e w'=>∃ v F',e=Ending.returned v∧Bel w.heap.size w w'∧(∀ b,F b→F' b)∧(∀ b,F' b→b<w'.heap.size∧(F b∨w.heap.size≤b))∧RepV w' (dctx F') outA v) a4.defers .returning w4:=by
  rintro⟨q1,q2,q3⟩
  have hd:=hg5.defers
  rw[hd]
  show Leaves prog Tryz.f10 a4.tmps _ [{ target:=.fn (.func M.F_prim_Do_2) caps,args:=#[] }] .returning w4
  refine leaves_cons (f:=M.F_prim_Do_2) (args:=caps) (by simp) (by simp[invoke,go_sem]) ?_
  rw[hcap]
  refine (do2_idle _ _ _ w4).mono ?_
  rintro e u' w5 ⟨rfl,rfl,rfl⟩
  obtain⟨v,k1,k2'⟩:=resAll_run hg5 hrs q1
  have hfz:=hg5.hgood.freeze (keysOf (fun k=>hk k st'.h) (resAll st' M.rs_prim_Do))
  have:=reify_rep hg5.hgood (c1:=frzCtx st'.h c4 (keysOf (fun k=>hk k st'.h) (resAll st' M.rs_prim_Do))) (fun _ hb=>.inl hb) _ _ k2' q2 (fun _ hb=>.inr hb)
  rw[q3] at this
  exact⟨v,k1,v,_,rfl,hg5.below,hfz.le,hfz.fz,RepV.mono _ _ (Mono.refl _ _) (le_dctx (fun _ h=>h)) this⟩
 cases ex with
 | normal=>exact key hq
 | ret=>exact key hq
 | exit id=>exact hq.elim
 | goto l=>exact hq.elim
end Go.Proofs.YtjipnamfdmllmaaGreatDoor.Pv
set_option maxRecDepth 100000
namespace Go.Proofs.YtjipnamfdmllmaaGreatDoor.Pv
open Go Go.RowKit
theorem c_law21_lives:Ret prog M.F_law21_lives [] (.bool true):=by
 have cd:Ret prog M.F_prim_Do [.str addS,.agg rowA,.vec 5 false []] (.tup [.agg num7,.agg zer5,.bool true]):=c_prim_Do_add
 refine Ret.go hmix h_law21_lives (by simp) fun hb w0 F0 hG=>?_
 simp
 intros
 refine XCall.ret (r:=.tup [.agg num7,.agg zer5,.bool true]) (by simpa[addS,rowA,num2,num5] using cd) ?_
 simp[num7,zer5]
 intros
 refine XCall.ret (r:=.bool true) (by simpa[num7] using v_like7) ?_
 simp
 refine XCall.ret (r:=.bool true) (by simpa[zer5] using v_like0) ?_
 simp
def hasS:ByteArray:=⟨#[104,97,115]⟩
theorem key_has:keyS hasS 1=⟨#[104,97,115,47,49]⟩:=by
 have h1:itoaS 1=⟨#[49]⟩:=by
  unfold itoaS
  simp[Lib.itoa,Lib.decDigits]
 unfold keyS
 rw[h1]; rfl
theorem has_k:hasF ⟨#[104,97,115,47,49]⟩ primT=true:=by kernel_rfl
theorem has_there:hasF (keyS hasS 1) primT=true:=by rw[key_has]; exact has_k
theorem has_ref (k:ByteArray):hasF k primT=refN.any fun x=>strEq x k:=by
 have h1:(primT.all fun p=>refN.any fun x=>x.data == p.1.data)=true:=by kernel_rfl
 have h2:(refN.all fun x=>primT.any fun p=>x.data == p.1.data)=true:=by kernel_rfl
 have hx:∀ {a b:ByteArray},(a.data == b.data)=true→a=b:=fun {a b} h=>by cases a; cases b; simp at h; rw[h]
 rw[Bool.eq_iff_iff]
 unfold hasF
 simp only[List.any_eq_true]
 constructor
 ·rintro⟨p,hp,he⟩
  obtain⟨x,hx1,hx2⟩:=List.any_eq_true.1 (List.all_eq_true.1 h1 p hp)
  exact⟨x,hx1,by rw[hx hx2]; exact he⟩
 ·rintro⟨x,hx1,he⟩
  obtain⟨p,hp,hp2⟩:=List.any_eq_true.1 (List.all_eq_true.1 h2 x hx1)
  exact⟨p,hp,by rw[← hx hp2]; exact he⟩
theorem c_law21_PrimNames (s:ByteArray) (n:Int) (hs:s.size≤140737488355000):Ret prog M.F_law21_PrimNames [.str s,.int .i64 n] (.bool true):=by
 have c1:=c_law21_lives
 have c2:=c_prim_Names
 have c3:=c_ref21_Names
 have c4:=c_kit_SameStrings refN refN
 rw[eqv_true rfl] at c4
 have c5:=c_prim_Is hasS 1 (by decide)
 rw[has_there] at c5
 have c6:=c_prim_Is s n hs
 have c7:=c_ref21_Is s n hs
 rw[← has_ref] at c7
 refine Ret.go hmix h_law21_PrimNames (by simp) fun hb w0 F0 hG=>?_
 generalize hasF (keyS s n) primT=B at *
 generalize refN=L at *
 simp
 refine XCall.ret (by first|exact c1|(simpa using c1)) ?_
 simp
 refine XCall.ret (by first|exact c2|(simpa using c2)) ?_
 simp
 refine XCall.retO (by first|exact c3|(simpa using c3)) ?_
 simp
 intros
 refine XCall.ret (r:=.bool true) (by simpa[List.take_of_length_le (show (L.map encStr).length≤L.length by simp)] using c4) ?_
 simp
 refine XCall.ret (r:=.bool true) (by first|exact c5|(simpa[hasS] using c5)) ?_
 simp
 refine XCall.ret (by first|exact c6|(simpa using c6)) ?_
 simp
 refine XCall.ret (by first|exact c7|(simpa using c7)) ?_
 cases B<;>simp
end Go.Proofs.YtjipnamfdmllmaaGreatDoor.Pv
namespace Go.Proofs.YtjipnamfdmllmaaGreatDoor.Pv
open Go
theorem primNames_ret (x0:ByteArray) (x1:Int) (hs:x0.size≤140737488355000):Ret prog M.F_law21_PrimNames [.str x0,.int .i64 x1] (.bool true):=c_law21_PrimNames x0 x1 hs
end Go.Proofs.YtjipnamfdmllmaaGreatDoor.Pv
namespace Go.Tidy
open Go
end Go.Tidy
namespace Go.Tidy
open Go
end Go.Tidy
namespace Go.Tidy
open Go
end Go.Tidy
