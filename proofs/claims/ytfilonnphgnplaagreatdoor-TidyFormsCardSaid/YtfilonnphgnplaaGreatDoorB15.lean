/- Part 15. -/
import Derived.Test.YtfilonnphgnplaaGreatDoorB14
set_option linter.unusedSimpArgs false
set_option linter.unusedVariables false
set_option maxRecDepth 100000
namespace Go.Proofs.YtfilonnphgnplaaGreatDoor.Pv
open Go Go.Tidy
def addP (P:Ty→Nat) (n:Nat) (f:Ty):Nat:=if n≤200 then n+P f else n
def objP (P:Ty→Nat) (n:Nat) (o:Ob):Nat:=(o.fields++[o.rest]).foldl (addP P) n
theorem foldP_bd (P:Ty→Nat) (B:Nat):∀ (l:List Ty) (n:Nat),(∀ f∈l,P f≤B)→n≤200+B→l.foldl (addP P) n≤200+B
 | [],n,_,h=>h
 | f::l,n,hl,h=>foldP_bd P B l _ (fun x hx=>hl x (by simp[hx])) (by
     have:=hl f (by simp)
     unfold addP; split<;>omega)
theorem objP_bd (P:Ty→Nat) (B:Nat) (l:List Ob) (n:Nat) (hl:∀ o∈l,(∀ f∈o.fields,P f≤B)∧P o.rest≤B) (h:n≤200+B):l.foldl (objP P) n≤200+B:=by
 induction l generalizing n with
 | nil=>exact h
 | cons o l ih =>
   refine ih _ (fun x hx=>hl x (by simp[hx])) (foldP_bd P B _ n (fun f hf=>?_) h)
   have:=hl o (by simp)
   rcases List.mem_append.1 hf with hf|hf
   ·exact this.1 f hf
   ·rw[List.mem_singleton.1 hf]; exact this.2
theorem map_take_app {l:List Ty} {P:Ty→Nat} {n k:Nat} (hk:k<l.length):(l.take (k+1)).foldl (addP P) n=addP P ((l.take k).foldl (addP P) n) l[k]:=by
 rw[List.take_add_one,List.getElem?_eq_getElem hk]
 simp only[Option.toList_some,List.foldl_append,List.foldl_cons,List.foldl_nil]
set_option maxHeartbeats 4000000 in
theorem tparts_step (t:Ty) (P:Ty→Nat) (B:Nat) (hB:B≤1099511627776) (ha1:t.arrays.length≤1)
 (ha:∀ a∈t.arrays,Ret prog M.F_tidy_parts [.agg (cT a.item)] (.int .i64 (P a.item:Nat))∧P a.item≤B)
 (hr:∀ o∈t.objects,Ret prog M.F_tidy_parts [.agg (cT o.rest)] (.int .i64 (P o.rest:Nat))∧P o.rest≤B)
 (hf:∀ o∈t.objects,∀ x∈o.fields,Ret prog M.F_tidy_parts [.agg (cT x)] (.int .i64 (P x:Nat))∧P x≤B)
 (hlo:∀ o∈t.objects,o.fields.length≤34359738368) :
 Ret prog M.F_tidy_parts [.agg (cT t)] (.int .i64 (t.objects.foldl (objP P) (t.arrays.foldl (fun n a=>n+P a.item) 1):Nat)):=by
 refine Ret.go hmix h_tidy_parts (by simp) fun hb w0 F0 hG=>?_
 simp only[bndL,bndV,List.length_map,LIM,and_true] at hb
 generalize hR:t.objects.foldl (objP P) (t.arrays.foldl (fun n a=>n+P a.item) 1)=R
 simp
 intro v
 obtain⟨J,hJ⟩ : ∃ J:Nat→Nat→Prop,J=fun k m=>m=(t.arrays.take k).foldl (fun n a=>n+P a.item) 1:=⟨_,rfl⟩
 refine XLoop.cnt hmix t.arrays.length (fun (k m:Nat)=>⟨[(13,.int .i64 k),(12,.int .i64 t.arrays.length),(11,.vec 11 false (t.arrays.map encArr)),(3,.int .i64 (m:Nat)),(1,.ptr (1,v) 9 0 0)],[((1,v),some ⟨9,[cT t],false,true⟩)]⟩) J 1 (by simp[hJ]) (by simp) fun k m hk hj=>?_
 have hw:=wrap64 (n:=(k:Int)+1) (by omega) (by omega)
 have hj' : m=(t.arrays.take k).foldl (fun n a=>n+P a.item) 1:=by rw[hJ] at hj; exact hj
 by_cases h1:k<t.arrays.length
 ·obtain rfl:k=0:=by omega
  have hm:m=1:=by simpa using hj'
  have h0:=ha t.arrays[0] (List.getElem_mem h1)
  have w2:=wrap64 (n:=(m:Int)+P t.arrays[0].item) (by omega) (by omega)
  simp[h1]
  intro v5
  refine XCall.ret h0.1 ?_
  have k1:=wrap64 (n:=1) (by omega) (by omega)
  simp[hw,w2,h1,k1]
  exact⟨m+P t.arrays[0].item,by
   rw[hJ]
   show _=(t.arrays.take 1).foldl _ 1
   rw[List.take_add_one,List.getElem?_eq_getElem h1]
   simp[hm],by simp⟩
 ·have hm:m=t.arrays.foldl (fun n a=>n+P a.item) 1:=by rw[hj',List.take_of_length_le (by omega)]
  have hmB:m≤200+B:=by
   rw[hm]
   match hA:t.arrays with
   | []=>simp; omega
   | [a]=>have:=(ha a (by simp[hA])).2; simp; omega
   | a::b::r=>rw[hA] at ha1; simp at ha1
  rw[← hm] at hR
  simp[h1]
  clear hj hj' hJ J
  obtain⟨J,hJ⟩ : ∃ J:Nat→Nat→Prop,J=fun k n=>n=(t.objects.take k).foldl (objP P) m:=⟨_,rfl⟩
  refine XLoop.cnt hmix t.objects.length (fun (k n:Nat)=>⟨[(26,.int .i64 k),(25,.int .i64 t.objects.length),(24,.vec 12 false (t.objects.map encObj)),(3,.int .i64 (n:Nat)),(1,.ptr (1,v) 9 0 0)],[((1,v),some ⟨9,[cT t],false,true⟩)]⟩) J m (by simp[hJ]) (by simp) fun i n hi hj=>?_
  have hw:=wrap64 (n:=(i:Int)+1) (by omega) (by omega)
  have hj' : n=(t.objects.take i).foldl (objP P) m:=by rw[hJ] at hj; exact hj
  by_cases h2:i<t.objects.length
  ·have hnB:n≤200+B:=by
      rw[hj']
      exact objP_bd P B _ m (fun o ho=>⟨fun f hf'=>(hf o (List.mem_of_mem_take ho) f hf').2,(hr o (List.mem_of_mem_take ho)).2⟩) hmB
   have hst:(t.objects.take (i+1)).foldl (objP P) m=objP P n t.objects[i]:=by
    rw[List.take_add_one,List.getElem?_eq_getElem h2]
    simp only[Option.toList_some,List.foldl_append,List.foldl_cons,List.foldl_nil,hj']
   have hro:=hr _ (List.getElem_mem h2)
   have hfo:=hf _ (List.getElem_mem h2)
   have hlo':=hlo _ (List.getElem_mem h2)
   generalize ho:t.objects[i]=o at *
   have q0:o.fields.length≤68719476735:=by omega
   have hl2:(o.fields++[o.rest]).length=o.fields.length+1:=by simp
   have hall:∀ f∈o.fields++[o.rest],Ret prog M.F_tidy_parts [.agg (cT f)] (.int .i64 (P f:Nat))∧P f≤B:=fun f hf=>by
    rcases List.mem_append.1 hf with hf|hf
    ·exact hfo f hf
    ·rw[List.mem_singleton.1 hf]; exact hro
   have hoP:objP P n o=(o.fields++[o.rest]).foldl (addP P) n:=rfl
   obtain⟨L,hL⟩ : ∃ L,L=o.fields++[o.rest]:=⟨_,rfl⟩
   have hLl:L.length=o.fields.length+1:=by rw[hL,hl2]
   obtain⟨J',hJ'⟩ : ∃ J:Nat→Nat→Prop,J=fun j p=>p=(L.take j).foldl (addP P) n:=⟨_,rfl⟩
   have ne:o.fields≠[]→nilV true (o.fields.map encTy)=false:=fun h=>by cases hf:o.fields<;>simp[nilV] ; exact absurd hf h
   rcases Classical.em (o.fields=[]) with e|e
   ·simp[h2,q0,ho,e,nilV]
    intro v7 v42
    refine XLoop.cntR hmix [(42,9,1042)] rfl L.length (fun v' j (p:Nat)=>⟨[(44,.int .i64 j),(43,.int .i64 L.length),(42,.own (1042,v') 9 0 L.length false),(3,.int .i64 (p:Nat)),(26,.int .i64 i),(25,.int .i64 t.objects.length),(24,.vec 12 false (t.objects.map encObj)),(1,.ptr (1,v) 9 0 0)],[((1042,v'),some ⟨9,L.map encTy,false,false⟩),((1,v),some ⟨9,[cT t],false,true⟩)]⟩) J' n (by rw[hJ']; rfl) (fun v'=>by simp[hL,e,leR_refl]) fun v' j p _ hj2 hjj=>?_
    have hw':=wrap64 (n:=(j:Int)+1) (by omega) (by omega)
    have hjj' : p=(L.take j).foldl (addP P) n:=by rw[hJ'] at hjj; exact hjj
    have hpB:p≤200+B:=by
     rw[hjj']
     exact foldP_bd P B _ n (fun f hf=>(hall f (by rw[← hL]; exact List.mem_of_mem_take hf)).2) hnB
    by_cases h3:j<L.length
    ·have hc:=hall L[j] (by rw[← hL]; exact List.getElem_mem h3)
     have w2:=wrap64 (n:=(p:Int)+P L[j]) (by omega) (by omega)
     have hst2:=map_take_app (P:=P) (n:=n) h3
     rw[← hjj'] at hst2
     simp[h3]
     intro v9
     refine XCut.go hmix ?_
     by_cases h200:p≤200
     ·have h200' : (p:Int)≤200:=by omega
      simp[h200,h200']
      refine XCall.ret hc.1 ?_
      simp[w2,hw',h3]
      exact⟨p+P L[j],by rw[hJ']; show _=_; rw[hst2]; simp[addP,h200],by omega⟩
     ·have h200' : ¬ (p:Int)≤200:=by omega
      simp[h200,h200',hw',h3]
      exact⟨p,by rw[hJ']; show _=_; rw[hst2]; simp[addP,h200],rfl⟩
    ·have hp:p=objP P n o:=by rw[hjj',List.take_of_length_le (by omega),hL,hoP]
     simp[h3,hw,h2]
     exact⟨p,by rw[hJ]; show _=_; rw[hst]; exact hp,rfl⟩
   ·simp[h2,q0,ho,ne e]
    intro v7 v42
    refine XLoop.cntR hmix [(42,9,1042)] rfl L.length (fun v' j (p:Nat)=>⟨[(44,.int .i64 j),(43,.int .i64 L.length),(42,.own (1042,v') 9 0 L.length false),(3,.int .i64 (p:Nat)),(26,.int .i64 i),(25,.int .i64 t.objects.length),(24,.vec 12 false (t.objects.map encObj)),(1,.ptr (1,v) 9 0 0)],[((1042,v'),some ⟨9,L.map encTy,false,false⟩),((1,v),some ⟨9,[cT t],false,true⟩)]⟩) J' n (by rw[hJ']; rfl) (fun v'=>by simp[hL,e,leR_refl]) fun v' j p _ hj2 hjj=>?_
    have hw':=wrap64 (n:=(j:Int)+1) (by omega) (by omega)
    have hjj' : p=(L.take j).foldl (addP P) n:=by rw[hJ'] at hjj; exact hjj
    have hpB:p≤200+B:=by
     rw[hjj']
     exact foldP_bd P B _ n (fun f hf=>(hall f (by rw[← hL]; exact List.mem_of_mem_take hf)).2) hnB
    by_cases h3:j<L.length
    ·have hc:=hall L[j] (by rw[← hL]; exact List.getElem_mem h3)
     have w2:=wrap64 (n:=(p:Int)+P L[j]) (by omega) (by omega)
     have hst2:=map_take_app (P:=P) (n:=n) h3
     rw[← hjj'] at hst2
     simp[h3]
     intro v9
     refine XCut.go hmix ?_
     by_cases h200:p≤200
     ·have h200' : (p:Int)≤200:=by omega
      simp[h200,h200']
      refine XCall.ret hc.1 ?_
      simp[w2,hw',h3]
      exact⟨p+P L[j],by rw[hJ']; show _=_; rw[hst2]; simp[addP,h200],by omega⟩
     ·have h200' : ¬ (p:Int)≤200:=by omega
      simp[h200,h200',hw',h3]
      exact⟨p,by rw[hJ']; show _=_; rw[hst2]; simp[addP,h200],rfl⟩
    ·have hp:p=objP P n o:=by rw[hjj',List.take_of_length_le (by omega),hL,hoP]
     simp[h3,hw,h2]
     exact⟨p,by rw[hJ]; show _=_; rw[hst]; exact hp,rfl⟩
  ·have:n=R:=by rw[hj',List.take_of_length_le (by omega),hR]
   simp[h2,this]
end Go.Proofs.YtfilonnphgnplaaGreatDoor.Pv
set_option maxRecDepth 100000
namespace Go.Proofs.YtfilonnphgnplaaGreatDoor.Pv
open Go Go.Tidy
def cntOk (n e:Nat):Prop:=(n≤200→n=e)∧(200<n→200<e)
theorem cntOk_add {P:Ty→Nat} {n e:Nat} {f:Ty} (h:cntOk n e) (hf:cntOk (P f) (partsT f)):cntOk (addP P n f) (e+partsT f):=by
 obtain⟨h1,h2⟩:=h
 obtain⟨f1,f2⟩:=hf
 unfold addP cntOk
 by_cases g:n≤200
 ·have:=h1 g
  simp only[g,if_true]
  by_cases g2:P f≤200
  ·have:=f1 g2; omega
  ·have:=f2 (by omega); omega
 ·have:=h2 (by omega)
  rw[if_neg g]
  exact⟨fun h=>absurd h g,fun _=>by omega⟩
theorem cntOk_fold {P:Ty→Nat}:∀ (l:List Ty) {n e:Nat},cntOk n e→(∀ f∈l,cntOk (P f) (partsT f))→cntOk (l.foldl (addP P) n) (e+partsTs l)
 | [],n,e,h,_=>by simpa[partsTs] using h
 | f::l,n,e,h,hl=>by
   have:=cntOk_fold l (cntOk_add h (hl f (by simp))) fun x hx=>hl x (by simp[hx])
   have e2:e+partsT f+partsTs l=e+partsTs (f::l):=by simp[partsTs]; omega
   rwa [e2] at this
theorem partsTs_app (l:List Ty) (t:Ty):partsTs (l++[t])=partsTs l+partsT t:=by
 induction l with
 | nil=>simp[partsTs]
 | cons a l ih=>simp only[List.cons_append,partsTs,ih]; omega
theorem cntOk_objs {P:Ty→Nat}:∀ (l:List Ob) {n e:Nat},cntOk n e→(∀ o∈l,(∀ f∈o.fields,cntOk (P f) (partsT f))∧cntOk (P o.rest) (partsT o.rest))→cntOk (l.foldl (objP P) n) (e+partsOs l)
 | [],n,e,h,_=>by simpa[partsOs] using h
 | o::l,n,e,h,hl=>by
   have h0:=hl o (by simp)
   have h1:=cntOk_fold (P:=P) (o.fields++[o.rest]) h fun f hf=>by
    rcases List.mem_append.1 hf with hf|hf
    ·exact h0.1 f hf
    ·rw[List.mem_singleton.1 hf]; exact h0.2
   have:=cntOk_objs l h1 fun x hx=>hl x (by simp[hx])
   obtain⟨ns,fs,ms,r⟩:=o
   simp only[Ob.fields_mk,Ob.rest_mk,partsTs_app] at this
   have e2:e+(partsTs fs+partsT r)+partsOs l=e+partsOs (.mk ns fs ms r::l):=by simp[partsOs]; omega
   rwa [e2] at this
theorem parts_ex:∀ (n:Nat),n≤1073741824→∀ t:Ty,FitT t→heightT t≤n→∃ p:Nat,Ret prog M.F_tidy_parts [.agg (cT t)] (.int .i64 (p:Nat))∧cntOk p (partsT t)∧p≤201+200*n:=by
 intro n
 induction n with
 | zero =>
   intro _ t ht hh
   have h0:=height_le_zero.1 hh
   have:=tparts_step t (fun _=>0) 0 (by omega) (by simp[h0.1]) (by simp[h0.1]) (by simp[h0.2]) (by simp[h0.2]) (by simp[h0.2])
   rw[h0.1,h0.2] at this
   exact⟨1,this,by rw[parts_zero hh]; exact⟨fun _=>rfl,fun h=>by omega⟩,by omega⟩
 | succ n ih =>
   intro hn t ht hh
   have hs:=height_le_succ.1 hh
   have hch:∀ x:Ty,∃ p:Nat,FitT x→heightT x≤n→Ret prog M.F_tidy_parts [.agg (cT x)] (.int .i64 (p:Nat))∧cntOk p (partsT x)∧p≤201+200*n:=fun x=>by
    by_cases hx:FitT x∧heightT x≤n
    ·obtain⟨p,hp⟩:=ih (by omega) x hx.1 hx.2
     exact⟨p,fun _ _=>hp⟩
    ·exact⟨0,fun a b=>absurd ⟨a,b⟩ hx⟩
   obtain⟨P,hP⟩:=Classical.axiomOfChoice hch
   have fA:∀ a∈t.arrays,_:=fun a ha=>hP a.item (ht.item ha) (hs.1 a ha)
   have fR:∀ o∈t.objects,_:=fun o ho=>hP o.rest (ht.rest ho) (hs.2 o ho).1
   have fF:∀ o∈t.objects,∀ x∈o.fields,_:=fun o ho x hx=>hP x (ht.field ho hx) ((hs.2 o ho).2 x hx)
   have ha1:=(formedT_spec ht.1).2.2.2.2.2.1
   refine⟨_,tparts_step t P (201+200*n) (by omega) ha1 (fun a ha=>⟨(fA a ha).1,(fA a ha).2.2⟩) (fun o ho=>⟨(fR o ho).1,(fR o ho).2.2⟩) (fun o ho x hx=>⟨(fF o ho x hx).1,(fF o ho x hx).2.2⟩) (fun o ho=>by have:=ht.names ho; omega),?_,?_⟩
   ·rw[partsT_def]
    have e:1+(partsAs t.arrays+partsOs t.objects)=(1+partsAs t.arrays)+partsOs t.objects:=by omega
    rw[e]
    refine cntOk_objs _ ?_ fun o ho=>⟨fun f hf=>(fF o ho f hf).2.1,(fR o ho).2.1⟩
    match hA:t.arrays with
    | []=>simp[partsAs,cntOk]
    | [.mk x lo hi] =>
      have h1:=(fA (.mk x lo hi) (by simp[hA])).2.1
      simp only[Arr.item] at h1
      simp only[List.foldl_cons,List.foldl_nil,partsAs,Arr.item,cntOk] at h1 ⊢
      obtain⟨f1,f2⟩:=h1
      by_cases g2:P x≤200
      ·have:=f1 g2; omega
      ·have:=f2 (by omega); omega
    | a::b::r=>rw[hA] at ha1; simp at ha1
   ·have:=objP_bd P (201+200*n) t.objects (t.arrays.foldl (fun n a=>n+P a.item) 1) (fun o ho=>⟨fun f hf=>(fF o ho f hf).2.2,(fR o ho).2.2⟩) (by
       match hA:t.arrays with
       | []=>simp; omega
       | [a]=>have:=(fA a (by simp[hA])).2.2; simp; omega
       | a::b::r=>rw[hA] at ha1; simp at ha1)
    omega
theorem c_tidy_parts (t:Ty) (ht:FitT t) (hh:heightT t≤1073741824):∃ p:Nat,Ret prog M.F_tidy_parts [.agg (cT t)] (.int .i64 (p:Nat))∧(200<p↔200<partsT t):=by
 obtain⟨p,h1,⟨h2,h3⟩,h4⟩:=parts_ex (heightT t) hh t ht (Nat.le_refl _)
 refine⟨p,h1,h3,fun h=>?_⟩
 by_cases g:p≤200
 ·have:=h2 g; omega
 ·omega
end Go.Proofs.YtfilonnphgnplaaGreatDoor.Pv
set_option maxRecDepth 100000
namespace Go.Proofs.YtfilonnphgnplaaGreatDoor.Pv
open Go Go.Tidy
set_option maxHeartbeats 4000000 in
theorem tform_step (t:Ty) (ht:heightT t<1073741824) (hN:∀ h:Nat,h≤8→Ret prog M.F_tidy_normal [.agg (cT t),.int .i64 (h:Nat)] (.agg (cT (normalT h t))))
 (hP:∀ h:Nat,h≤8→FitT (normalT h t)∧heightT (normalT h t)≤1073741824) :
 Ret prog M.F_tidy_form [.agg (cT t)] (.agg (cT (formT t))):=by
 have hH:=c_shape_Height t (by omega)
 have hR:=formT_min t
 obtain⟨mo,hmo⟩ : ∃ mo,mo=min (heightT t) 8:=⟨_,rfl⟩
 have hm8:mo≤8:=by omega
 refine Ret.go hmix h_tidy_form (by simp) fun hb w0 F0 hG=>?_
 simp
 intro v1 v2 v3
 refine XDCall.ret (r:=.agg (cT (normalT 0 t))) (by simpa using hN 0 (by omega)) ?_
 simp
 refine XDCall.ret hH ?_
 have hmm:(if (8:Int)<(heightT t:Int) then (8:Int) else (heightT t:Int))=(mo:Nat):=by split<;>omega
 simp[hmm]
 rw[← hmo] at hR
 generalize formT t=R at *
 obtain⟨J,hJ⟩ : ∃ J:Nat→Ty→Prop,J=fun k b=>formFrom t (mo-k) (k+1) b=R:=⟨_,rfl⟩
 refine XLoop.cnt hmix mo (fun (k:Nat) (b:Ty)=>⟨[(5,.int .i64 (k+1:Nat)),(4,.int .i64 mo),(3,.ptr (3,v3) 9 0 0),(2,.ptr (2,v2) 9 0 0),(1,.ptr (1,v1) 9 0 0)],[((3,v3),some ⟨9,[cT b],false,true⟩),((2,v2),some ⟨9,[M.z1],false,true⟩),((1,v1),some ⟨9,[cT t],false,true⟩)]⟩) J (normalT 0 t) (by rw[hJ]; exact hR) (by simp) fun k b hk hj=>?_
 have hj' : formFrom t (mo-k) (k+1) b=R:=by rw[hJ] at hj; exact hj
 have hw:=wrap64 (n:=((k+1:Nat):Int)+1) (by omega) (by omega)
 obtain⟨i,hi⟩ : ∃ i,i=k+1:=⟨_,rfl⟩
 rw[← hi] at hw hj'
 show XC _ _ ⟨[(5,.int .i64 (k+1:Nat)),(4,.int .i64 mo),(3,.ptr (3,v3) 9 0 0),(2,.ptr (2,v2) 9 0 0),(1,.ptr (1,v1) 9 0 0)],[((3,v3),some ⟨9,[cT b],false,true⟩),((2,v2),some ⟨9,[M.z1],false,true⟩),((1,v1),some ⟨9,[cT t],false,true⟩)]⟩ _ _
 rw[← hi]
 by_cases g:k<mo
 ·have g1:i≤mo:=by omega
  obtain⟨m,hm⟩ : ∃ m,mo-k=m+1:=⟨mo-k-1,by omega⟩
  rw[hm,formFrom_step] at hj'
  have c1:=hN i (by omega)
  obtain⟨p,c2,hp⟩:=c_tidy_parts (normalT i t) (hP i (by omega)).1 (hP i (by omega)).2
  generalize normalT i t=z at *
  simp[g1]
  refine XCall.ret c1 ?_
  simp
  intro v6
  refine XCall.ret c2 ?_
  by_cases h200:200<p
  ·have h200' : (200:Int)<p:=by omega
   rw[if_neg (by have:=hp.1 h200; omega)] at hj'
   simp[h200,h200',hj']
  ·have h200' : ¬ (200:Int)<p:=by omega
   rw[if_pos (by rcases Nat.lt_or_ge 200 (partsT z) with h|h; exact absurd (hp.2 h) h200; exact h)] at hj'
   simp[h200,h200',hw]
   exact⟨g,z,by rw[hJ]; show formFrom _ _ _ _=_; rw[show mo-(k+1)=m by omega,show k+1+1=i+1 by omega]; exact hj',by omega,by simp⟩
 ·have g1:¬ i≤mo:=by omega
  rw[show mo-k=0 by omega] at hj'
  have hb' : b=R:=hj'
  simp[g1,hb']
end Go.Proofs.YtfilonnphgnplaaGreatDoor.Pv
set_option maxRecDepth 100000
namespace Go.Proofs.YtfilonnphgnplaaGreatDoor.Pv
open Go Go.Tidy
set_option maxHeartbeats 4000000 in
theorem tTidy_step (t:Ty) (hF:formedT t=true→Ret prog M.F_tidy_form [.agg (cT t)] (.agg (cT (formT t)))) (hT:formedT t=true→Ret prog M.F_shape_Twin [.agg (cT (formT t))] (.agg (cT (formT t)))) :
 Ret prog M.F_tidy_Tidy [.agg (cT t)] (.tup [.agg (cT (if formedT t then formT t else tNever)),.int .i64 (if formedT t then 0 else 1)]):=by
 refine Ret.go hmix h_tidy_Tidy (by simp) fun hb w0 F0 hG=>?_
 have c1:=c_shape_Formed t
 simp
 intros
 refine XCall.ret c1 ?_
 cases e:formedT t
 ·simp[tNever]
 ·have c2:=hF e
  have c3:=hT e
  generalize formT t=z at *
  simp
  refine XCall.ret c2 ?_
  simp
  refine XCall.ret c3 ?_
  simp
set_option maxHeartbeats 4000000 in
theorem tIs_step (t:Ty) (hF:formedT t=true→Ret prog M.F_tidy_form [.agg (cT t)] (.agg (cT (formT t)))) (hz:formedT t=true→formedT (formT t)=true) :
 Ret prog M.F_tidy_Is [.agg (cT t)] (.bool (formedT t&&sameT t (formT t))):=by
 refine Ret.go hmix h_tidy_Is (by simp) fun hb w0 F0 hG=>?_
 have c1:=c_shape_Formed t
 simp
 intros
 refine XDCall.ret c1 ?_
 cases e:formedT t
 ·simp
 ·have c2:=hF e
  have c3:=c_shape_Same t (formT t) e (hz e)
  generalize formT t=z at *
  simp
  refine XDCall.ret c2 ?_
  simp
  refine XDCall.ret c3 ?_
  simp
set_option maxHeartbeats 4000000 in
theorem tSum_step (a b:Ty) (NM:List S) (m:Nat) (hm:2*m≤4294967296) (hba:bdT NM m a) (hbb:bdT NM m b) (hT:formedT a=true→formedT b=true→Ret prog M.F_shape_Twin [.agg (cT (sumT a b))] (.agg (cT (sumT a b)))) :
 Ret prog M.F_tidy_Sum [.agg (cT a),.agg (cT b)] (.tup [.agg (cT (if formedT a&&formedT b then sumT a b else tNever)),.int .i64 (if formedT a&&formedT b then 0 else 1)]):=by
 have c1:=c_shape_Formed a
 have c2:=c_shape_Formed b
 refine Ret.go hmix h_tidy_Sum (by simp) fun hb w0 F0 hG=>?_
 simp
 intros
 refine XCall.ret c1 ?_
 cases e1:formedT a
 ·simp[tNever]
 ·simp
  refine XCall.ret c2 ?_
  cases e2:formedT b
  ·simp[tNever]
  ·have c3:=c_tidy_together sorts_ok compacts_ok NM m [a,b] (by simp[e1,e2]) (by simp[hba,hbb]) (by simp; omega)
   rw[sumL_two e1] at c3
   have c4:=hT e1 e2
   generalize sumT a b=z at *
   simp
   intros
   refine XCall.ret (r:=.agg (cT z)) (by simpa using c3) ?_
   simp
   refine XCall.ret c4 ?_
   simp
end Go.Proofs.YtfilonnphgnplaaGreatDoor.Pv
set_option maxRecDepth 100000
namespace Go.Proofs.YtfilonnphgnplaaGreatDoor.Pv
open Go Go.Tidy
theorem leR_eq' {hl:Key→Option HE} {a b:List (List PV)} (h:a=b):leR hl a b:=h ▸ leR_refl hl a
def oneRow (ns:List S) (a b:PV) (r:Ty):List PV:=[.vec 1 false (ns.map encStr),a,b,.bool r.all,.bool r.null,.bool r.fls,.bool r.tru,.vec 2 false (r.nums.map encSpan),.bool r.any,.vec 1 false (r.texts.map encStr),.vec 11 false (r.arrays.map encArr),.vec 12 false (r.objects.map encObj)]
theorem all_take {α:Type} (f:α→Bool) {l:List α} {k:Nat} (hk:k<l.length):(l.take (k+1)).all f=((l.take k).all f&&f l[k]):=by
 rw[List.take_succ_eq_append_getElem hk,List.all_append]; simp
section
variable {w0:World} {F0:Nat→Prop} {hG:GOk prog w0 F0}
set_option maxHeartbeats 8000000 in
theorem tone_tail (NM:List S) (m:Nat) (l:List Ob) (hf:∀ o∈l,formedO o=true) (hm:∀ o∈l,bdO NM m o) (h4:l.length*m≤4294967296) (hl:l.length≤34359738368) (ns:List S) (hn:ns.length≤34359738368) (r:Ty) (v2 v9:Nat) :
 XC ⟨prog,w0,F0,94,[],0,hG⟩ (.seq (.seq (.reg [M.o 50 (.faddr (.t 9) 0),M.o 51 (.load (.t 50) 1 false),M.o 52 (.len (.t 51)),M.o 53 (.mv (.k (.int .i64 0)))]) (.block 4 (.loop M.b_tidy_one_3))) M.t_tidy_one_1)
  ⟨[(9,.ptr (9,v9) 12 0 0),(2,.ptr (2,v2) 12 0 0),(0,.vec 12 false (l.map encObj))],[((9,v9),some ⟨12,[oneRow ns (.vec 9 true []) (.vec 1 true []) r],false,true⟩),((2,v2),some ⟨12,[M.z4],false,true⟩)]⟩ []
  (retIs M.rs_tidy_one (.agg (cO (.mk ns (ns.map fun n=>sumL (l.map fun o=>(fieldO o n).1)) (ns.map fun n=>l.all fun o=>(fieldO o n).2) r)))):=by
 obtain⟨fF,hfF⟩ : ∃ fF:S→Ty,fF=fun n=>sumL (l.map fun o=>(fieldO o n).1):=⟨_,rfl⟩
 obtain⟨fM,hfM⟩ : ∃ fM:S→Bool,fM=fun n=>l.all fun o=>(fieldO o n).2:=⟨_,rfl⟩
 rw[← hfF,← hfM]
 obtain⟨R,hR⟩ : ∃ R,R=Ob.mk ns (ns.map fF) (ns.map fM) r:=⟨_,rfl⟩
 rw[← hR]
 simp[oneRow]
 obtain⟨J,hJ⟩ : ∃ J:Nat→(List Ty × List Bool)→Prop,J=fun k g=>g.1=(ns.take k).map fF∧g.2=(ns.take k).map fM:=⟨_,rfl⟩
 refine XLoop.cntR hmix [(2000009,9,1001),(3000009,1,1002)] rfl ns.length (fun v k (g:List Ty × List Bool)=>⟨[(53,.int .i64 k),(52,.int .i64 ns.length),(51,.vec 1 false (ns.map encStr)),(9,.ptr (9,v9) 12 0 0),(2,.ptr (2,v2) 12 0 0),(0,.vec 12 false (l.map encObj))],
  [((9,v9),some ⟨12,[oneRow ns (.own (1001,v) 9 0 g.1.length false) (.own (1002,v) 1 0 g.2.length false) r],false,true⟩),((1001,v),some ⟨9,g.1.map encTy,false,false⟩),((1002,v),some ⟨1,g.2.map encBool,false,false⟩),((2,v2),some ⟨12,[M.z4],false,true⟩)]⟩) J ([],[]) (by rw[hJ]; exact⟨rfl,rfl⟩) (fun v=>by simp[oneRow]) fun v k g _ hk hj=>?_
 obtain⟨fs,ms⟩:=g
 have hj' : fs=(ns.take k).map fF∧ms=(ns.take k).map fM:=by rw[hJ] at hj; exact hj
 clear hj
 obtain⟨j1,j2⟩:=hj'
 have hfl:fs.length=k:=by rw[j1]; simp; omega
 have hml:ms.length=k:=by rw[j2]; simp; omega
 have hw:=wrap64 (n:=(k:Int)+1) (by omega) (by omega)
 by_cases g1:k<ns.length
 ·have st1:(ns.take (k+1)).map fF=fs++[fF ns[k]]:=by rw[map_take' fF g1,j1]
  have st2:(ns.take (k+1)).map fM=ms++[fM ns[k]]:=by rw[map_take' fM g1,j2]
  have hJn:J (k+1) (fs++[fF ns[k]],ms++[fM ns[k]]):=by rw[hJ]; exact⟨st1.symm,st2.symm⟩
  have cT':=c_tidy_together sorts_ok compacts_ok NM m (l.map fun o=>(fieldO o ns[k]).1) (fun t ht=>by
   obtain⟨o,ho,rfl⟩:=List.mem_map.1 ht
   obtain⟨o1,o2,o3,o4,o5,o6⟩:=formedO_spec (hf o ho)
   rcases fieldO_in o ns[k] with h|h
   ·exact o5 _ h
   ·rw[h]; exact o4) (fun t ht=>by
   obtain⟨o,ho,rfl⟩:=List.mem_map.1 ht
   exact bd_field (hm o ho) _) (by simpa using h4)
  have hFk:fF ns[k]=sumL (l.map fun o=>(fieldO o ns[k]).1):=by rw[hfF]
  have hMk:fM ns[k]=l.all fun o=>(fieldO o ns[k]).2:=by rw[hfM]
  rw[← hFk] at cT'
  generalize hx:ns[k]=x at *
  generalize fF x=z at *
  simp[g1,oneRow,hx]
  intro v3
  obtain⟨J2,hJ2⟩ : ∃ J2:Nat→(List Ty × Bool)→Prop,J2=fun j p=>p.1=(l.take j).map (fun o=>(fieldO o x).1)∧p.2=(l.take j).all (fun o=>(fieldO o x).2):=⟨_,rfl⟩
  refine XLoop.cntR hmix [(2000009,9,1001),(3000009,1,1002),(12,9,1003)] rfl l.length (fun v j (p:List Ty × Bool)=>⟨[(60,.int .i64 j),(59,.int .i64 l.length),(58,.vec 12 false (l.map encObj)),(12,.own (1003,v) 9 0 p.1.length false),(13,.bool p.2),(11,.str x),(53,.int .i64 k),(52,.int .i64 ns.length),(51,.vec 1 false (ns.map encStr)),(9,.ptr (9,v9) 12 0 0),(2,.ptr (2,v2) 12 0 0),(0,.vec 12 false (l.map encObj))],
   [((9,v9),some ⟨12,[oneRow ns (.own (1001,v) 9 0 fs.length false) (.own (1002,v) 1 0 ms.length false) r],false,true⟩),((1001,v),some ⟨9,fs.map encTy,false,false⟩),((1002,v),some ⟨1,ms.map encBool,false,false⟩),((1003,v),some ⟨9,p.1.map encTy,false,false⟩),((2,v2),some ⟨12,[M.z4],false,true⟩)]⟩) J2 ([],true) (by rw[hJ2]; exact⟨rfl,rfl⟩) (fun v=>by simp[oneRow]) fun u j p _ hj hjp=>?_
  obtain⟨sd,mu⟩:=p
  have hjp' : sd=(l.take j).map (fun o=>(fieldO o x).1)∧mu=(l.take j).all (fun o=>(fieldO o x).2):=by rw[hJ2] at hjp; exact hjp
  clear hjp
  obtain⟨p1,p2⟩:=hjp'
  have hsl:sd.length=j:=by rw[p1]; simp; omega
  have hwj:=wrap64 (n:=(j:Int)+1) (by omega) (by omega)
  by_cases g2:j<l.length
  ·have ho:=hf _ (List.getElem_mem g2)
   obtain⟨o1,o2,o3,o4,o5,o6⟩:=formedO_spec ho
   have cf:=c_tidy_field l[j] x o1 o2 (riseB_SS o3).1
   have s1:(l.take (j+1)).map (fun o=>(fieldO o x).1)=sd++[(fieldO l[j] x).1]:=by rw[map_take' _ g2,p1]
   have s2:(l.take (j+1)).all (fun o=>(fieldO o x).2)=(mu&&(fieldO l[j] x).2):=by rw[all_take _ g2,p2]
   have hJ2n:J2 (j+1) (sd++[(fieldO l[j] x).1],mu&&(fieldO l[j] x).2):=by rw[hJ2]; exact⟨s1.symm,s2.symm⟩
   generalize (fieldO l[j] x).1=y at *
   generalize (fieldO l[j] x).2=b at *
   simp[g2,oneRow,-Bool.exists_bool]
   intro v4
   refine XCall.ret cf ?_
   simp[g2,-Bool.exists_bool]
   intro v5 v6
   refine⟨by omega,sd++[y],mu&&b,hJ2n,fun v=>⟨⟨hwj,by simp,rfl⟩,leR_eq' (by simp)⟩⟩
  ·have e1:sd=l.map (fun o=>(fieldO o x).1):=by rw[p1,List.take_of_length_le (by omega)]
   have e2:mu=fM x:=by rw[p2,List.take_of_length_le (by omega),hMk]
   rw[← e1] at cT'
   simp[g2,oneRow,-Bool.exists_bool]
   intro v5
   refine XDCall.ret (r:=.agg (cT z)) (by simpa using cT') ?_
   simp[oneRow,-Bool.exists_bool]
   exact⟨by omega,fun v=>⟨by omega,g1,fs++[z],ms++[mu],by rw[e2]; exact hJn,fun v1=>⟨hw,⟨by simp,by simp⟩,leR_eq' (by simp),leR_eq' (by simp)⟩⟩⟩
 ·have hR' : R=.mk ns fs ms r:=by rw[hR,j1,j2,List.take_of_length_le (by omega)]
  simp[g1,oneRow,hR']
end
end Go.Proofs.YtfilonnphgnplaaGreatDoor.Pv
set_option maxRecDepth 100000
namespace Go.Proofs.YtfilonnphgnplaaGreatDoor.Pv
open Go Go.Tidy Go.RowKit
section
variable {P:Program} {kt et:TypeId} {w0:World} {F0:Nat→Prop} {nt b b2 n:Nat} {o2:Option Obj} {ks:List ByteArray} {st:St} {a:Act} {w:World}
theorem MRel.step (hmix:P.follows .mixedOrders=true) {c:Code} {m:MC} {Q:Exit→Act→World→Prop} (h:MRel P kt et w0 F0 nt b b2 o2 n ks st a w) (hm:toMC P nt c=some m) (he:m.erase=m) (ex:Ex) (ts:List (Nat × Nat × Nat)) (hts:tagsOk ts=true) (S2:Nat→Nat→St)
 (hx:∀ w1 F1 hG,XC ⟨P,w1,F1,nt,[],0,hG⟩ m st [] fun e st'=>e=ex∧∃ u,∀ v,LS (canonF ts v st') (S2 u v))
 (hK:∀ u v a' w',MRel P kt et w0 F0 nt b b2 o2 n ks (S2 u v) a' w'→Q (Ex.to ex) a' w'):c.wp P Q a w:=by
 refine wp_mono (MRel.run hmix (by rw[he]; exact hm) h hx) ?_
 rintro e a' w' ⟨ex',st',rfl,⟨rfl,u,hl⟩,hr⟩
 obtain⟨v,hr'⟩:=hr.canon ts hts
 exact hK u v a' w' (hr'.ls (hl v))
theorem inBlock_self {id:Nat} {Q:Exit→Act→World→Prop} (h:Q .normal a w):Exit.inBlock id Q (.exit id) a w:=by simp[Exit.inBlock,h]
end
def tS (b b2 off:Nat) (l:List Ob) (v k:Nat) (rs:List Ty):St:=⟨[(22,.int .i64 k),(21,.int .i64 l.length),(20,.vec 12 false (l.map encObj)),(4,.own (1004,v) 9 0 rs.length false),(3,.raw (.map (some b))),(2,.raw (.pointer (some ⟨b2,off,none⟩))),(0,.vec 12 false (l.map encObj))],
 [((1004,v),some ⟨9,rs.map encTy,false,false⟩)]⟩
def tI (b b2 off:Nat) (l:List Ob) (v k:Nat) (rs:List Ty) (u:Nat) (o:Ob) (x:List (Nat × PV)):St:=⟨x++[(6,.ptr (6,u) 12 0 0),(5,.int .i64 k),(22,.int .i64 k),(21,.int .i64 l.length),(20,.vec 12 false (l.map encObj)),(4,.own (1004,v) 9 0 rs.length false),(3,.raw (.map (some b))),(2,.raw (.pointer (some ⟨b2,off,none⟩))),(0,.vec 12 false (l.map encObj))],
 [((6,u),some ⟨12,[cO o],false,true⟩),((1004,v),some ⟨9,rs.map encTy,false,false⟩)]⟩
def tJ (o:Ob) (j:Nat):List (Nat × PV):=[(30,.int .i64 j),(29,.int .i64 o.names.length),(28,.vec 1 false (o.names.map encStr))]
section
variable {w0:World} {F0:Nat→Prop} {kt et b b2 off:Nat} {o2:Option Obj} {l:List Ob}
theorem tone_inner (hT:MapT prog 164 kt et) {Q:Exit→Act→World→Prop} {k:Nat} {rs:List Ty} {u v n0 N0:Nat} {o:Ob} {ks0:List S} {a:Act} {w:World} (hol:o.names.length≤34359738368) (hk:k≤34359738368) {c:Code} (hc:toMC prog 94 c=some (.block 2 (.loop M.b_tidy_one_0))) (hN:N0+o.names.length<maxLen) (hn0:n0≤N0)
 (h:MRel prog kt et w0 F0 94 b b2 o2 n0 ks0 (tI b b2 off l v k rs u o (tJ o 0)) a w)
 (hQ:∀ v u n ks a w,n≤N0+o.names.length→(∀ s,s∈ks↔s∈ks0∨s∈o.names)→MRel prog kt et w0 F0 94 b b2 o2 n ks (tI b b2 off l v k rs u o []) a w→Q .normal a w):c.wp prog Q a w:=by
 obtain⟨cl,rfl,hl⟩:=toMC_block hc
 obtain⟨cb,rfl,hb⟩:=toMC_loop hl
 refine wp_block ?_
 refine wp_loop_ghost (fun m a w=>∃ v j n ks,j≤o.names.length∧o.names.length-j=m∧n≤N0+j∧(∀ s,s∈ks↔s∈ks0∨s∈o.names.take j)∧MRel prog kt et w0 F0 94 b b2 o2 n ks (tI b b2 off l v k rs u o (tJ o j)) a w) o.names.length ⟨v,0,n0,ks0,by omega,by simp,by omega,by simp,h⟩ ?_
 rintro m a w ⟨v,j,n,ks,hj,rfl,hn,hks,h⟩
 obtain⟨c1,c2,rfl,h1,h2⟩:=toMC_seq hb
 obtain⟨c3,c4,rfl,h3,h4⟩:=toMC_seq h2
 obtain⟨c5,c6,rfl,h5,h6⟩:=toMC_seq h4
 obtain⟨c7,rfl,h7⟩:=toMC_block h5
 obtain⟨c8,c9,rfl,h8,h9⟩:=toMC_seq h7
 obtain⟨id,ops,rfl,hops⟩:=toMC_reg h9
 have hw:=wrap64 (n:=(j:Int)+1) (by omega) (by omega)
 by_cases g:j<o.names.length
 ·refine wp_seq (h.step hmix h1 rfl .normal [(4,9,1004)] rfl (fun _ v=>tI b b2 off l v k rs u o ((31,.bool true)::tJ o j)) (fun w1 F1 hG=>by simp[tI,tJ,g]) fun _ v a w h=>?_)
  refine wp_seq (h.step hmix h3 rfl .normal [(4,9,1004)] rfl (fun _ v=>tI b b2 off l v k rs u o (tJ o j)) (fun w1 F1 hG=>by simp[tI,tJ,g]) fun _ v a w h=>?_)
  refine wp_seq (wp_block ?_)
  refine wp_seq (h.step hmix h8 rfl .normal [(4,9,1004)] rfl (fun _ v=>tI b b2 off l v k rs u o ((8,.str o.names[j])::tJ o j)) (fun w1 F1 hG=>by simp[tI,tJ,g]) fun _ v a w h=>?_)
  refine wp_region_list ?_
  obtain⟨l1,l2,e1,k1,k2⟩:=toOps_split (ms1:=[M.o 34 (.mv (.t 3)),M.o 35 (.mv (.t 8)),M.o 36 (.mv (.t 5))]) hops
  obtain⟨o1,l3,rfl,k3,k4⟩:=toOps_cons k2
  obtain rfl:=toOps_nil k4
  rw[e1]
  obtain⟨w1,F1,hG,r1,r2,r3⟩:=h
  refine run_sound_app (E:=⟨prog,w1,F1,94,[],0,hG⟩) (K:=fun st'=>LS st' (tI b b2 off l v k rs u o ((36,.int .i64 k)::(35,.str o.names[j])::(34,.raw (.map (some b)))::tJ o j))) ?_ l1 _ _ a w k1 r3 (by
   show XR _ [M.o 34 (.mv (.t 3)),M.o 35 (.mv (.t 8)),M.o 36 (.mv (.t 5))] _ [] (fun _ st'=>LS st' _)
   simp[tI,tJ,leR_refl])
  intro st' a w hl hr
  have h:MRel prog kt et w0 F0 94 b b2 o2 n ks (tI b b2 off l v k rs u o ((36,.int .i64 k)::(35,.str o.names[j])::(34,.raw (.map (some b)))::tJ o j)) a w:=⟨w1,F1,hG,r1,r2,hl.le a w hr⟩
  refine h.set hT k3 (s:=o.names[j]) (i:=k) rfl rfl rfl (by omega) fun w' h=>?_
  show Exit.inBlock 3 _ .normal a w'
  refine h.step hmix h6 rfl .normal [(4,9,1004)] rfl (fun _ v=>tI b b2 off l v k rs u o (tJ o (j+1))) (fun w1 F1 hG=>by simp[tI,tJ,g,hw]) fun _ v a w h=>?_
  refine⟨o.names.length-(j+1),by omega,v,j+1,n+1,_,by omega,rfl,by omega,fun s=>?_,h⟩
  rw[List.take_succ_eq_append_getElem g]
  simp only[List.mem_cons,hks,List.mem_append,List.not_mem_nil,or_false]
  constructor
  ·rintro (h|h|h)<;>simp[h]
  ·rintro (h|h|h)<;>simp[h]
 ·refine wp_seq (h.step hmix h1 rfl .normal [(4,9,1004)] rfl (fun _ v=>tI b b2 off l v k rs u o ((31,.bool false)::tJ o j)) (fun w1 F1 hG=>by simp[tI,tJ,g]) fun _ v a w h=>?_)
  refine wp_seq (h.step hmix h3 rfl (.exit 2) [(4,9,1004)] rfl (fun _ v=>tI b b2 off l v k rs u o []) (fun w1 F1 hG=>by simp[tI,tJ,g]) fun _ v a w h=>?_)
  show Exit.inBlock 2 Q (.exit 2) a w
  refine inBlock_self (hQ v u n ks a w (by omega) (fun s=>?_) h)
  rw[hks,List.take_of_length_le (by omega)]
theorem tone_outer (hT:MapT prog 164 kt et) (m:Nat) (hm:∀ o∈l,o.names.length≤m) (hm' : m≤34359738368) (hl:l.length≤34359738368) {Q:Exit→Act→World→Prop} {v:Nat} {a:Act} {w:World} {c:Code} (hc:toMC prog 94 c=some (.block 0 (.loop M.b_tidy_one_1))) (hN:l.length*m+m<maxLen)
 (h:MRel prog kt et w0 F0 94 b b2 o2 0 [] (tS b b2 off l v 0 []) a w)
 (hQ:∀ n ks a w,(∀ s,s∈ks↔∃ o∈l,s∈o.names)→MRel prog kt et w0 F0 94 b b2 o2 n ks ⟨[(4,.vec 9 false ((l.map Ob.rest).map encTy)),(3,.raw (.map (some b))),(2,.raw (.pointer (some ⟨b2,off,none⟩))),(0,.vec 12 false (l.map encObj))],[]⟩ a w→Q .normal a w):c.wp prog Q a w:=by
 obtain⟨cl,rfl,hlp⟩:=toMC_block hc
 obtain⟨cb,rfl,hb⟩:=toMC_loop hlp
 refine wp_block ?_
 refine wp_loop_ghost (fun x a w=>∃ v k n ks rs,k≤l.length∧l.length-k=x∧n≤k*m∧rs=(l.take k).map Ob.rest∧(∀ s,s∈ks↔∃ o∈l.take k,s∈o.names)∧MRel prog kt et w0 F0 94 b b2 o2 n ks (tS b b2 off l v k rs) a w) l.length ⟨v,0,0,[],[],by omega,by simp,by omega,by simp,by simp,h⟩ ?_
 rintro x a w ⟨v,k,n,ks,rs,hk,rfl,hn,hrs,hks,h⟩
 have hrl:rs.length=k:=by rw[hrs]; simp; omega
 obtain⟨c1,c2,rfl,h1,h2⟩:=toMC_seq hb
 obtain⟨c3,c4,rfl,h3,h4⟩:=toMC_seq h2
 obtain⟨c5,c6,rfl,h5,h6⟩:=toMC_seq h4
 obtain⟨c7,rfl,h7⟩:=toMC_block h5
 obtain⟨c8,c9,rfl,h8,h9⟩:=toMC_seq h7
 obtain⟨c10,c11,rfl,h10,h11⟩:=toMC_seq h9
 obtain⟨c12,c13,rfl,h12,h13⟩:=toMC_seq h10
 have hw:=wrap64 (n:=(k:Int)+1) (by omega) (by omega)
 by_cases g:k<l.length
 ·have hkm:(k+1)*m≤l.length*m:=Nat.mul_le_mul_right m g
  have hkm' : (k+1)*m=k*m+m:=Nat.succ_mul k m
  have hom:=hm _ (List.getElem_mem g)
  have hrl2:rs.length≤68719476735:=by omega
  have st1:(l.take (k+1)).map Ob.rest=rs++[l[k].rest]:=by rw[map_take' _ g,hrs]
  refine wp_seq (h.step hmix h1 rfl .normal [(4,9,1004)] rfl (fun _ v=>⟨(23,.bool true)::(tS b b2 off l v k rs).s,(tS b b2 off l v k rs).h⟩) (fun w1 F1 hG=>by simp[tS,g]) fun _ v a w h=>?_)
  refine wp_seq (h.step hmix h3 rfl .normal [(4,9,1004)] rfl (fun _ v=>tS b b2 off l v k rs) (fun w1 F1 hG=>by simp[tS,g]) fun _ v a w h=>?_)
  refine wp_seq (wp_block ?_)
  refine wp_seq (h.step hmix h8 rfl .normal [(4,9,1004)] rfl (fun u v=>tI b b2 off l v k rs u l[k] []) (fun w1 F1 hG=>by
   simp[tS,tI,g]
   intro u
   exact⟨u,fun v=>by simp⟩) fun u v a w h=>?_)
  generalize ho:l[k]=o at *
  refine wp_seq (wp_seq (h.step hmix h12 rfl .normal [(4,9,1004)] rfl (fun _ v=>tI b b2 off l v k rs u o (tJ o 0)) (fun w1 F1 hG=>by simp[tI,tJ]) fun _ v a w h=>?_))
  refine tone_inner hT (by omega) (by omega) h13 (N0:=k*m) (by omega) hn h fun v u n' ks' a w hn' hks' h=>?_
  refine h.step hmix h11 rfl .normal [(4,9,1004)] rfl (fun _ v=>tS b b2 off l v k (rs++[o.rest])) (fun w1 F1 hG=>by simp[tS,tI,hrl2]) fun _ v a w h=>?_
  refine h.step hmix h6 rfl .normal [(4,9,1004)] rfl (fun _ v=>tS b b2 off l v (k+1) (rs++[o.rest])) (fun w1 F1 hG=>by simp[tS,hw]) fun _ v a w h=>?_
  refine⟨l.length-(k+1),by omega,v,k+1,n',ks',_,by omega,rfl,by omega,st1.symm,fun s=>?_,h⟩
  rw[hks',hks,List.take_succ_eq_append_getElem g,ho]
  simp only[List.mem_append,List.mem_singleton]
  constructor
  ·rintro (⟨o',h1,h2⟩|h)
   ·exact⟨o',.inl h1,h2⟩
   ·exact⟨o,.inr rfl,h⟩
  ·rintro⟨o',h1|rfl,h2⟩
   ·exact .inl ⟨o',h1,h2⟩
   ·exact .inr h2
 ·refine wp_seq (h.step hmix h1 rfl .normal [(4,9,1004)] rfl (fun _ v=>⟨(23,.bool false)::(tS b b2 off l v k rs).s,(tS b b2 off l v k rs).h⟩) (fun w1 F1 hG=>by simp[tS,g]) fun _ v a w h=>?_)
  have hrs' : rs=l.map Ob.rest:=by rw[hrs,List.take_of_length_le (by omega)]
  refine wp_seq (h.step hmix h3 rfl (.exit 0) [] rfl (fun _ v=>⟨[(4,.vec 9 false (rs.map encTy)),(3,.raw (.map (some b))),(2,.raw (.pointer (some ⟨b2,off,none⟩))),(0,.vec 12 false (l.map encObj))],[]⟩) (fun w1 F1 hG=>by simp[tS,g]) fun _ v a w h=>?_)
  show Exit.inBlock 0 Q (.exit 0) a w
  refine inBlock_self (hQ n ks a w (fun s=>?_) (hrs' ▸ h))
  rw[hks,List.take_of_length_le (by omega)]
end
theorem len_names {NM:List S} {m:Nat} {o:Ob} (hf:formedO o=true) (hm:bdO NM m o):o.names.length≤NM.length:=SS_len (formedO_SS hf) hm.1
set_option maxHeartbeats 4000000 in
theorem c_tidy_one {kt et:TypeId} (hS:SortedKeys prog 164 kt et M.F_maps_Keys_int M.F_slices_Sorted_string) (NM:List S) (m:Nat) (l:List Ob) (hf:∀ o∈l,formedO o=true) (hm:∀ o∈l,bdO NM m o) (h4:l.length*m≤4294967296) (hl:l.length≤34359738368) (hNM:NM.length≤134217728) :
 Ret prog M.F_tidy_one [.vec 12 false (l.map encObj)] (.agg (cO (oneO l))):=by
 refine Ret.of_wp h_tidy_one (by simp) fun c htm w0 F0 hG a hg=>?_
 have hF0:∀ x,F0 x→x<w0.heap.size:=fun x hx=>(hg.fz x hx).1
 replace htm:toMC prog 94 c=some M.m_tidy_one:=htm
 obtain⟨c1,c2,rfl,h1,h2⟩:=toMC_seq htm
 obtain⟨c3,c4,rfl,h3,h4'⟩:=toMC_seq h2
 obtain⟨c5,c6,rfl,h5,h6⟩:=toMC_seq h4'
 obtain⟨c7,c8,rfl,h7,h8⟩:=toMC_seq h6
 obtain⟨c9,c10,rfl,h9,h10⟩:=toMC_seq h7
 obtain⟨c11,c12,rfl,h11,h12⟩:=toMC_seq h8
 have hnl:∀ o∈l,o.names.length≤NM.length:=fun o ho=>len_names (hf o ho) (hm o ho)
 have hmul:l.length*NM.length≤34359738368*134217728:=Nat.mul_le_mul hl hNM
 have hmax:l.length*NM.length+NM.length<maxLen:=by unfold maxLen; omega
 have cT':=c_tidy_together sorts_ok compacts_ok NM m (l.map Ob.rest) (fun t ht=>by
  obtain⟨o,ho,rfl⟩:=List.mem_map.1 ht
  exact (formedO_spec (hf o ho)).2.2.2.1) (fun t ht=>by
  obtain⟨o,ho,rfl⟩:=List.mem_map.1 ht
  exact (hm o ho).2.2) (by simpa using h4)
 refine wp_seq (wp_mono (exec_sound (E:=⟨prog,w0,F0,94,[],0,hG⟩) hmix c1 (.reg [M.o 2 (.alloc M.z4)]) _ a w0 (fun e st'=>e=.normal∧∃ v2,st'=⟨[(2,.ptr (2,v2) 12 0 0),(0,.vec 12 false (l.map encObj))],[((2,v2),some ⟨12,[M.z4],false,true⟩)]⟩) h1 ⟨_,hg⟩ ?_) ?_)
 ·show XC _ _ _ [] _
  simp
 rintro e a w ⟨ex,st',rfl,⟨rfl,v2,rfl⟩,hr⟩
 obtain⟨id,ops,rfl,hops⟩:=toMC_reg h3
 refine wp_seq (wp_region_list (mrel_start (kt:=kt) (et:=et) (z:=M.z4) (x0:=.vec 12 false (l.map encObj)) hF0 (by decide) (by decide) (by decide) (by decide) rfl hops hr fun b b2 off o2 a w hB h=>?_))
 refine wp_seq (h.step hmix h5 rfl .normal [(4,9,1004)] rfl (fun _ v=>⟨[(4,.own (1004,v) 9 0 0 false),(3,.raw (.map (some b))),(2,.raw (.pointer (some ⟨b2,off,none⟩))),(0,.vec 12 false (l.map encObj))],[((1004,v),some ⟨9,[],false,false⟩)]⟩) (fun w1 F1 hG=>by simp) fun _ v a w h=>?_)
 refine wp_seq (wp_seq (h.step hmix h9 rfl .normal [(4,9,1004)] rfl (fun _ v=>tS b b2 off l v 0 []) (fun w1 F1 hG=>by simp[tS]) fun _ v a w h=>?_))
 refine tone_outer hS.2.2.1 NM.length hnl (by omega) hl h10 hmax h fun n ks a w hks h=>?_
 obtain⟨id2,ops2,rfl,hops2⟩:=toMC_reg h11
 refine wp_seq (wp_region_list (mrel_fin (hG0:=hG) hS (z:=M.z4) (NK:=NM.map fun s=>s.data.toList) (by decide) rfl rfl hB (fun s hs=>?_) (by simp; omega) hops2 h fun ns N l' a w hl' hss hmem hr=>?_))
 ·obtain⟨o,ho,h⟩:=(hks s).1 hs
  exact List.mem_map.2 ⟨s,(hm o ho).1 s h,rfl⟩
 have hns:ns=namesL l:=by
  refine SS_ext sCmp_swap (hss.imp fun {x y} h=>?_) (SS_namesL fun o ho=>formedO_SS (hf o ho)) fun s=>by rw[hmem,hks,mem_namesL hf]
  rw[sCmp_lt]
  show Op.bytesLess _ _=true
  rw[bytesLess_lt]
  simpa using h
 have hnsl:ns.length≤NM.length:=by
  rw[hns]
  refine SS_len (SS_namesL fun o ho=>formedO_SS (hf o ho)) fun n hn=>?_
  obtain⟨o,ho,hn⟩:=namesL_sub l n hn
  exact (hm o ho).1 n hn
 have hO:oneO l=.mk ns (ns.map fun n=>sumL (l.map fun o=>(fieldO o n).1)) (ns.map fun n=>l.all fun o=>(fieldO o n).2) (sumL (l.map Ob.rest)):=by rw[hns]; rfl
 rw[hO]
 have htail:=fun v9=>tone_tail (w0:=w0) (F0:=F0) (hG:=hG) NM m l hf hm h4 hl ns (by omega) (sumL (l.map Ob.rest)) N v9
 clear hO
 generalize sumL (l.map Ob.rest)=r at *
 rw[← List.append_nil l']
 obtain⟨K,hK⟩ : ∃ K:St→Prop,K=fun st'=>∃ v9,LS st' ⟨[(9,.ptr (9,v9) 12 0 0),(2,.ptr (2,N) 12 0 0),(0,.vec 12 false (l.map encObj))],[((9,v9),some ⟨12,[oneRow ns (.vec 9 true []) (.vec 1 true []) r],false,true⟩),((2,N),some ⟨12,[M.z4],false,true⟩)]⟩:=⟨_,rfl⟩
 refine run_sound_app (E:=⟨prog,w0,F0,94,[],0,hG⟩) (K:=K) ?_ l' _ _ a w hl' hr ?_
 ·intro st' a w hk hr
  rw[hK] at hk
  obtain⟨v9,hls⟩:=hk
  exact wp_mono (exec_sound (E:=⟨prog,w0,F0,94,[],0,hG⟩) hmix c12 (.seq (.seq (.reg [M.o 50 (.faddr (.t 9) 0),M.o 51 (.load (.t 50) 1 false),M.o 52 (.len (.t 51)),M.o 53 (.mv (.k (.int .i64 0)))]) (.block 4 (.loop M.b_tidy_one_3))) M.t_tidy_one_1) _ a w _ h12 (hls.le a w hr) (htail v9)) fun e a' w' h=>h
 ·show XR _ [M.o 47 (.mv (.t 4)),M.o 48 (.call M.F_tidy_together [.t 47]),M.o 49 (.build M.z4 [(0,1,.t 46),(3,9,.t 48)]),M.o 9 (.alloc M.z4),M.e (.store (.t 9) (.t 49) 12)] _ [] (fun _=>K)
  have eN:M.z4.length=12:=rfl
  rw[eN]
  simp
  refine XCall.ret (by simpa using cT') ?_
  simp[hK,oneRow]
  exact fun _ _=>rfl
end Go.Proofs.YtfilonnphgnplaaGreatDoor.Pv
set_option maxRecDepth 100000
namespace Go.Proofs.YtfilonnphgnplaaGreatDoor.Pv
open Go Go.Tidy
theorem kf_objs (l:List Ob):kfR (l.map encObj)=true:=by
 induction l with
 | nil=>rfl
 | cons o l ih=>simp[kfR,ih]
theorem set_arrs {l:List Arr} {k:Nat} (hk:k<l.length):(l.map encArr).set k (cA l[k])=l.map encArr:=by
 rw[← encArr_eq,← List.map_set,List.set_getElem_self]
theorem set_objs {l:List Ob} {k:Nat} (hk:k<l.length):(l.map encObj).set k (cO l[k])=l.map encObj:=by
 rw[← encObj_eq,← List.map_set,List.set_getElem_self]
theorem set_tys {l:List Ty} {k:Nat} (hk:k<l.length):(l.map encTy).set k (cT l[k])=l.map encTy:=by
 rw[← encTy_eq,← List.map_set,List.set_getElem_self]
theorem leR_set {hl:Key→Option HE}:∀ {l:List (List PV)} {k:Nat} {row:List PV} (hk:k<l.length),leL hl row l[k]→leR hl (l.set k row) l
 | [],k,_,hk,_=>by simp at hk
 | x::l,0,row,_,h=>by
   rw[List.set_cons_zero]
   exact⟨h,leR_refl hl l⟩
 | x::l,k+1,row,hk,h=>by
   rw[List.set_cons_succ]
   exact⟨leL_refl hl x,leR_set (by simpa using hk) h⟩
def twO (o:Ob) (a b c:PV):List PV:=[a,b,c,.bool o.rest.all,.bool o.rest.null,.bool o.rest.fls,.bool o.rest.tru,.vec 2 false (o.rest.nums.map encSpan),.bool o.rest.any,.vec 1 false (o.rest.texts.map encStr),.vec 11 false (o.rest.arrays.map encArr),.vec 12 false (o.rest.objects.map encObj)]
def twRow (t:Ty) (a o:PV):List PV:=[.bool t.all,.bool t.null,.bool t.fls,.bool t.tru,.vec 2 false (t.nums.map encSpan),.bool t.any,.vec 1 false (t.texts.map encStr),a,o]
set_option maxHeartbeats 8000000 in
theorem twin_step (t:Ty) (h1:t.nums.length≤34359738368) (h2:t.texts.length≤34359738368) (h3:t.arrays.length≤34359738368) (h4:t.objects.length≤34359738368)
 (hA:∀ a∈t.arrays,Ret prog M.F_shape_Twin [.agg (cT a.item)] (.agg (cT a.item)))
 (hO:∀ o∈t.objects,o.names.length≤34359738368∧o.fields.length≤34359738368∧o.must.length≤34359738368∧(∀ f∈o.fields,Ret prog M.F_shape_Twin [.agg (cT f)] (.agg (cT f)))∧Ret prog M.F_shape_Twin [.agg (cT o.rest)] (.agg (cT o.rest))) :
 Ret prog M.F_shape_Twin [.agg (cT t)] (.agg (cT t)):=by
 refine Ret.go hmix h_shape_Twin (by simp) fun hb w0 F0 hG=>?_
 have c1:=c_slices_Clone_Span false (t.nums.map encSpan) (by simp; omega)
 have c2:=c_slices_Clone_string false (t.texts.map encStr) (by simp; omega)
 have c3:=c_slices_Clone_Arr false (t.arrays.map encArr) (by simp; omega)
 have c4:=c_slices_Clone_Obj false (t.objects.map encObj) (by simp; omega)
 simp
 intro v1 v2 v3
 refine XDCall.retO c1 ?_
 simp
 refine XDCall.retO c2 ?_
 simp
 intro v4
 refine XDCall.retO c3 ?_
 simp
 refine XDCall.retO c4 ?_
 simp
 refine XLoop.anew [(8000001,11,1007),(9000001,12,1008)] rfl (fun v=>⟨[(26,.int .i64 0),(25,.int .i64 t.arrays.length),(2,.ptr (2,v2) 9 0 0),(1,.ptr (1,v1) 9 0 0)],[((1,v1),some ⟨9,[twRow t (.own (1007,v) 11 0 t.arrays.length false) (.own (1008,v) 12 0 t.objects.length false)],false,true⟩),((1007,v),some ⟨11,t.arrays.map encArr,false,false⟩),((1008,v),some ⟨12,t.objects.map encObj,false,false⟩),((2,v2),some ⟨9,[M.z1],false,true⟩)]⟩) (fun v=>by simp[twRow,leR_refl]) fun v hv=>?_
 refine XLoop.cnt hmix t.arrays.length (fun k (_:Unit)=>⟨[(26,.int .i64 k),(25,.int .i64 t.arrays.length),(2,.ptr (2,v2) 9 0 0),(1,.ptr (1,v1) 9 0 0)],[((1,v1),some ⟨9,[twRow t (.own (1007,v) 11 0 t.arrays.length false) (.own (1008,v) 12 0 t.objects.length false)],false,true⟩),((1007,v),some ⟨11,t.arrays.map encArr,false,false⟩),((1008,v),some ⟨12,t.objects.map encObj,false,false⟩),((2,v2),some ⟨9,[M.z1],false,true⟩)]⟩) (fun _ _=>True) () trivial (by simp[twRow,leR_refl]) fun k _ hk _=>?_
 have hw:=wrap64 (n:=(k:Int)+1) (by omega) (by omega)
 by_cases g1:k<t.arrays.length
 ·have cA:=hA _ (List.getElem_mem g1)
  have hs:=set_arrs g1
  simp[g1,twRow]
  intro v5
  refine XDCall.ret (by simpa using cA) ?_
  simp[g1,hw,hs,leR_refl]
 ·simp[g1,twRow]
  refine XLoop.anew [(9000001,12,1009)] rfl (fun v=>⟨[(45,.int .i64 0),(44,.int .i64 t.objects.length),(2,.ptr (2,v2) 9 0 0),(1,.ptr (1,v1) 9 0 0)],[((1,v1),some ⟨9,[twRow t (.vec 11 false (t.arrays.map encArr)) (.own (1009,v) 12 0 t.objects.length false)],false,true⟩),((1009,v),some ⟨12,t.objects.map encObj,false,true⟩),((2,v2),some ⟨9,[M.z1],false,true⟩)]⟩) (fun v=>by simp[twRow,leR_refl]) fun u hu=>?_
  refine XLoop.cntX hmix t.objects.length (fun k=>⟨[(45,.int .i64 k),(44,.int .i64 t.objects.length),(2,.ptr (2,v2) 9 0 0),(1,.ptr (1,v1) 9 0 0)],[((1,v1),some ⟨9,[twRow t (.vec 11 false (t.arrays.map encArr)) (.own (1009,u) 12 0 t.objects.length false)],false,true⟩),((1009,u),some ⟨12,t.objects.map encObj,false,true⟩),((2,v2),some ⟨9,[M.z1],false,true⟩)]⟩) 2
   ⟨[(2,.ptr (2,v2) 9 0 0),(1,.ptr (1,v1) 9 0 0)],[((1,v1),some ⟨9,[twRow t (.vec 11 false (t.arrays.map encArr)) (.own (1009,u) 12 0 t.objects.length false)],false,true⟩),((1009,u),some ⟨12,t.objects.map encObj,false,false⟩),((2,v2),some ⟨9,[M.z1],false,true⟩)]⟩ (fun v=>by simp[twRow,leR_refl]) ?_ ?_
  ·intro k hk
   have hw:=wrap64 (n:=(k:Int)+1) (by omega) (by omega)
   by_cases g2:k<t.objects.length
   ·obtain⟨o1,o2,o3,o4,o5⟩:=hO _ (List.getElem_mem g2)
    have hs:=set_objs g2
    have d1:=c_slices_Clone_string false (t.objects[k].names.map encStr) (by simp; omega)
    have d2:=c_slices_Clone_bool false (t.objects[k].must.map encBool) (by simp; omega)
    have d3:=c_slices_Clone_Type false (t.objects[k].fields.map encTy) (by simp; omega)
    generalize ho:t.objects[k]=o at *
    simp[g2,twRow,ho]
    intro v5
    refine XDCall.retO d1 ?_
    simp[g2,ho]
    refine XDCall.retO d2 ?_
    simp[g2,ho]
    refine XDCall.retO d3 ?_
    simp[g2,ho]
    have hnl:(t.objects.map encObj).length=t.objects.length:=by simp
    refine XLoop.cnt hmix o.fields.length (fun j (_:Unit)=>⟨[(81,.int .i64 j),(80,.int .i64 o.fields.length),(5,.ptr (1009,u) 12 k 0),(45,.int .i64 k),(44,.int .i64 t.objects.length),(2,.ptr (2,v2) 9 0 0),(1,.ptr (1,v1) 9 0 0)],
     [((1009,u),some ⟨12,(t.objects.map encObj).set k (twO o (.own (59,v5) 1 0 o.names.length false) (.own (69,v5) 9 0 o.fields.length false) (.own (64,v5) 1 0 o.must.length false)),false,true⟩),((69,v5),some ⟨9,o.fields.map encTy,false,false⟩),((64,v5),some ⟨1,o.must.map encBool,false,false⟩),((59,v5),some ⟨1,o.names.map encStr,false,false⟩),((1,v1),some ⟨9,[twRow t (.vec 11 false (t.arrays.map encArr)) (.own (1009,u) 12 0 t.objects.length false)],false,true⟩),((2,v2),some ⟨9,[M.z1],false,true⟩)]⟩) (fun _ _=>True) () trivial (by simp[twRow,twO,leR_refl]) fun j _ hj _=>?_
    have hwj:=wrap64 (n:=(j:Int)+1) (by omega) (by omega)
    by_cases g3:j<o.fields.length
    ·have cF:=o4 _ (List.getElem_mem g3)
     have hsf:=set_tys g3
     simp[g2,g3,twRow,twO]
     intro v6
     refine XDCall.ret (by simpa using cF) ?_
     simp[g2,g3,hwj,hsf,leR_refl]
    ·simp[g2,g3,twRow,twO]
     refine XCall.ret (by simpa using o5) ?_
     simp[g2,hw]
     refine leR_set (by simpa using g2) ?_
     have e:(t.objects.map encObj)[k]'(by simpa using g2)=cO o:=by simp[ho]
     rw[e]
     simp
   ·simp[g2,twRow,leR_refl,kf_objs]
  ·simp[twRow]
theorem c_shape_Twin (NM:List S) (m:Nat) (h1:NM.length≤8589934592) (h2:m≤8589934592):∀ t:Ty,formedT t=true→bdT NM m t→Ret prog M.F_shape_Twin [.agg (cT t)] (.agg (cT t)):=by
 have key:∀ (n:Nat) (t:Ty),heightT t≤n→formedT t=true→bdT NM m t→Ret prog M.F_shape_Twin [.agg (cT t)] (.agg (cT t)):=by
  intro n
  induction n with
  | zero =>
    intro t hh ht hb
    have h0:=height_le_zero.1 hh
    obtain⟨b1,b2,_,_⟩:=bdT_iff.1 hb
    have f4:=(formedT_spec ht).2.2.2.1
    exact twin_step t (by omega) (by omega) (by simp[h0.1]) (by simp[h0.2]) (by simp[h0.1]) (by simp[h0.2])
  | succ n ih =>
    intro t hh ht hb
    have hs:=height_le_succ.1 hh
    obtain⟨b1,b2,b3,b4⟩:=bdT_iff.1 hb
    obtain⟨f1,f2,f3,f4,f5,f6,f7,f8⟩:=formedT_spec ht
    refine twin_step t (by omega) (by omega) (by omega) (by omega) (fun a ha=>?_) (fun o ho=>?_)
    ·exact ih a.item (hs.1 a ha) (formedA_spec (f7 a ha)).2.2.2.1 (b3 a ha)
    ·obtain⟨o1,o2,o3,o4,o5,o6⟩:=formedO_spec (f8 o ho)
     have hb':=b4 o ho
     have hnl:o.names.length≤NM.length:=SS_len (formedO_SS (f8 o ho)) hb'.1
     exact⟨by omega,by omega,by omega,fun f hf=>ih f ((hs.2 o ho).2 f hf) (o5 f hf) (hb'.2.1 f hf),ih o.rest (hs.2 o ho).1 o4 hb'.2.2⟩
 exact fun t=>key (heightT t) t (Nat.le_refl _)
end Go.Proofs.YtfilonnphgnplaaGreatDoor.Pv
set_option maxRecDepth 100000
namespace Go.Proofs.YtfilonnphgnplaaGreatDoor.Pv
open Go Go.Tidy
abbrev rowH (gs gv:Nat) (l:List Ob):List (Key × Option HE):=[((gs,gv),some ⟨12,l.map encObj,false,false⟩)]
theorem rows_swap {l:List Ob} {a b:Nat} (ha:a<l.length) (hb:b<l.length):((l.map encObj).set a (cO l[b])).set b (cO l[a])=(swapN l a b).map encObj:=by
 rw[← encObj_eq,← encObj_eq,← List.map_set,← List.map_set]
 unfold swapN
 rw[List.getElem?_eq_getElem ha,List.getElem?_eq_getElem hb]
set_option maxHeartbeats 4000000 in
theorem c_swapRange (gs gv:Nat) (fl:Bool) (l:List Ob) (a b n:Nat) (fid:Nat) (ha:a+n≤l.length) (hb' : b+n≤l.length) (hl:l.length≤34359738368) :
 RetK prog M.F_slices_swapRangeCmpFunc_Obj [.own (gs,gv) 12 0 l.length fl,.int .i64 a,.int .i64 b,.int .i64 n,.fn fid [] []] (rowH gs gv l) (fun r h=>r=.tup []∧h=rowH gs gv (swapsN l a b n)):=by
 refine RetK.of hmix h_slices_swapRangeCmpFunc_Obj (by simp) fun E hP hV=>?_
 have hgV:=hV (gs,gv) ⟨12,l.map encObj,false,false⟩ (by simp[hk])
 obtain⟨P,w0,F0,nt,G,V,glob⟩:=E
 obtain rfl:P=prog:=hP
 simp
 refine XLoop.cnt hmix n (fun k (_:Unit)=>⟨[(10,.int .i64 k),(0,.own (gs,gv) 12 0 l.length fl),(1,.int .i64 a),(2,.int .i64 b),(3,.int .i64 n),(4,.fn fid [] [])],rowH gs gv (swapsN l a b k)⟩) (fun _ _=>True) () trivial (by simp[swapsN,leR_refl]) fun k _ hk _=>?_
 have hw:=wrap64 (n:=(k:Int)+1) (by omega) (by omega)
 have hlen:=swapsN_len l a b k
 by_cases h1:k<n
 ·obtain⟨i,hi⟩ : ∃ i,i=a+k:=⟨_,rfl⟩
  obtain⟨j,hj⟩ : ∃ j,j=b+k:=⟨_,rfl⟩
  have e1:(a:Int)+k=(i:Nat):=by omega
  have e2:(b:Int)+k=(j:Nat):=by omega
  have w1:=wrap64 (n:=(i:Nat)) (by omega) (by omega)
  have w2:=wrap64 (n:=(j:Nat)) (by omega) (by omega)
  have q1:i<(swapsN l a b k).length:=by omega
  have q2:j<(swapsN l a b k).length:=by omega
  have q3:i<l.length:=by omega
  have q4:j<l.length:=by omega
  have hs:=rows_swap q1 q2
  have hrow:(((swapsN l a b k).map encObj).set i (cO (swapsN l a b k)[j]))[j]'(by simpa using q2)=cO (swapsN l a b k)[j]:=by
   rw[List.getElem_set]; split
   ·rfl
   ·simp
  have hst:swapsN l a b (k+1)=swapN (swapsN l a b k) i j:=by rw[hi,hj]; rfl
  rw[← hst] at hs
  obtain⟨l2,hl2⟩ : ∃ x,swapsN l a b (k+1)=x:=⟨_,rfl⟩
  rw[hl2] at hs hst
  generalize swapsN l a b k=l1 at *
  simp[h1,hw,e1,e2,w1,w2,q1,q2,q3,q4,hrow,hs,hl2,leR_refl]
 ·have:k=n:=by omega
  subst this
  simp[h1]
  intro a1 b1 _
  by_cases hk:a1=gs∧b1=gv<;>simp[hk,leR_refl]
theorem c_swapR (gs gv:Nat) (fl:Bool) (p x z y q:List Ob) (fid:Nat) {L:List Ob} {n a b k:Nat} (hL:L=p++x++z++y++q) (hn:n=L.length) (ha:a=p.length) (hb:b=p.length+k+z.length) (hx:x.length=k) (hy:y.length=k) (hl:n≤34359738368) :
 RetK prog M.F_slices_swapRangeCmpFunc_Obj [.own (gs,gv) 12 0 n fl,.int .i64 a,.int .i64 b,.int .i64 k,.fn fid [] []] (rowH gs gv L) (fun r h=>r=.tup []∧h=rowH gs gv (p++y++z++x++q)):=by
 have hlen:L.length=p.length+k+z.length+k+q.length:=by rw[hL]; simp[hx,hy]; omega
 have:=c_swapRange gs gv fl L a b k fid (by omega) (by omega) (by omega)
 rw[← hn] at this
 refine this.mono ?_
 rintro r h' ⟨h1,h2⟩
 refine⟨h1,?_⟩
 rw[h2,hL,swapsN_split p x z y q hx hy ha hb]
end Go.Proofs.YtfilonnphgnplaaGreatDoor.Pv
set_option maxRecDepth 100000
namespace Go.Proofs.YtfilonnphgnplaaGreatDoor.Pv
open Go Go.Tidy
structure RotG where
 p:List Ob
 x:List Ob
 y:List Ob
 q:List Ob
def RotG.l (g:RotG):List Ob:=g.p++g.x++g.y++g.q
set_option maxHeartbeats 4000000 in
theorem c_rotate (gs gv:Nat) (fl:Bool) (p x y q:List Ob) (fid:Nat) {L:List Ob} {n a m b:Nat} (hL:L=p++x++y++q) (hn:n=L.length) (ha:a=p.length) (hm:m=p.length+x.length) (hb:b=p.length+x.length+y.length) (px:0<x.length) (py:0<y.length) (hl:n≤34359738368) :
 RetK prog M.F_slices_rotateCmpFunc_Obj [.own (gs,gv) 12 0 n fl,.int .i64 a,.int .i64 m,.int .i64 b,.fn fid [] []] (rowH gs gv L) (fun r h=>r=.tup []∧h=rowH gs gv (p++y++x++q)):=by
 refine RetK.of hmix h_slices_rotateCmpFunc_Obj (by simp) fun E hP hV=>?_
 have hgV:=hV (gs,gv) ⟨12,L.map encObj,false,false⟩ (by simp[hk])
 obtain⟨P,w0,F0,nt,G,V,glob⟩:=E
 obtain rfl:P=prog:=hP
 obtain⟨R,hR⟩ : ∃ R,R=p++y++x++q:=⟨_,rfl⟩
 have hlen:L.length=p.length+x.length+y.length+q.length:=by rw[hL]; simp; omega
 rw[← hR]
 have w1:=wrap64 (n:=(x.length:Nat)) (by omega) (by omega)
 have w2:=wrap64 (n:=(y.length:Nat)) (by omega) (by omega)
 have e1:(m:Int)-a=(x.length:Nat):=by omega
 have e2:(b:Int)-m=(y.length:Nat):=by omega
 simp[e1,e2,w1,w2]
 obtain⟨J,hJ⟩ : ∃ J:RotG→Prop,J=fun g=>g.l.length=n∧0<g.x.length∧0<g.y.length∧g.p.length+g.x.length=m∧g.p++g.y++g.x++g.q=R:=⟨_,rfl⟩
 refine XLoop.go hmix (fun (g:RotG)=>⟨[(10,.int .i64 g.x.length),(11,.int .i64 g.y.length),(0,.own (gs,gv) 12 0 n fl),(1,.int .i64 a),(2,.int .i64 m),(3,.int .i64 b),(4,.fn fid [] [])],rowH gs gv g.l⟩) J (fun g=>g.x.length+g.y.length) ⟨p,x,y,q⟩ (by rw[hJ]; exact⟨by rw[hn,hL]; rfl,px,py,hm.symm,hR.symm⟩) (by simp[RotG.l,hL,leR_refl]) fun g hj=>?_
 have hj' : g.l.length=n∧0<g.x.length∧0<g.y.length∧g.p.length+g.x.length=m∧g.p++g.y++g.x++g.q=R:=by rw[hJ] at hj; exact hj
 clear hj
 obtain⟨j1,j2,j3,j4,j5⟩:=hj'
 have jl:g.p.length+g.x.length+g.y.length+g.q.length=n:=by rw[← j1]; simp[RotG.l]; omega
 have e3:(m:Int)-g.x.length=(g.p.length:Nat):=by omega
 have w3:=wrap64 (n:=(g.p.length:Nat)) (by omega) (by omega)
 by_cases h1:g.x.length=g.y.length
 ·have h1' : (g.x.length:Int)=g.y.length:=by omega
  have c1:=c_swapR gs gv fl g.p g.x [] g.y g.q fid (L:=g.l) (n:=n) (a:=g.p.length) (b:=m) (k:=g.x.length) (by simp[RotG.l]) j1.symm rfl (by simp; omega) rfl h1.symm (by omega)
  simp[h1',e3,w3]
  rw[← h1',e3,w3]
  refine XCall.retK c1 ?_
  rintro r h' ⟨rfl,rfl⟩
  simp only[List.append_nil]
  rw[j5]
  simp
  intro a1 b1 _
  by_cases hk:a1=gs∧b1=gv<;>simp[hk,leR_refl]
 ·have h1' : ¬ (g.x.length:Int)=g.y.length:=by omega
  by_cases h2:g.y.length<g.x.length
  ·have h2' : (g.y.length:Int)<g.x.length:=by omega
   have w4:=wrap64 (n:=((g.x.length-g.y.length:Nat):Int)) (by omega) (by omega)
   have e4:(g.x.length:Int)-g.y.length=((g.x.length-g.y.length:Nat):Int):=by omega
   obtain⟨x1,x2,hx,hx1⟩ : ∃ x1 x2,g.x=x1++x2∧x1.length=g.y.length:=⟨g.x.take g.y.length,g.x.drop g.y.length,(List.take_append_drop _ _).symm,by simp; omega⟩
   have hx2:x2.length=g.x.length-g.y.length:=by rw[hx]; simp; omega
   have c1:=c_swapR gs gv fl g.p x1 x2 g.y g.q fid (L:=g.l) (n:=n) (a:=g.p.length) (b:=m) (k:=g.y.length) (by simp[RotG.l,hx]) j1.symm rfl (by omega) hx1 rfl (by omega)
   rw[← hx2] at w4 e4
   simp[h1']
   refine XCut.go hmix ?_
   simp[h2',e3,w3]
   refine XCall.retK c1 ?_
   rintro r h' ⟨rfl,rfl⟩
   simp[e4,w4]
   exact⟨⟨g.p++g.y,x2,x1,g.q⟩,by rw[hJ]; exact⟨by rw[← j1]; simp[RotG.l,hx]; omega,by simp only; omega,by simp only; omega,by simp; omega,by rw[← j5,hx]; simp⟩,by simp only; omega,by simp[RotG.l,leR_refl,hx1]⟩
  ·have h2' : ¬ (g.y.length:Int)<g.x.length:=by omega
   have w4:=wrap64 (n:=((g.y.length-g.x.length:Nat):Int)) (by omega) (by omega)
   have e4:(g.y.length:Int)-g.x.length=((g.y.length-g.x.length:Nat):Int):=by omega
   obtain⟨y1,y2,hy,hy2⟩ : ∃ y1 y2,g.y=y1++y2∧y2.length=g.x.length:=⟨g.y.take (g.y.length-g.x.length),g.y.drop (g.y.length-g.x.length),(List.take_append_drop _ _).symm,by simp; omega⟩
   have hy1:y1.length=g.y.length-g.x.length:=by rw[hy]; simp; omega
   have c1:=c_swapR gs gv fl g.p g.x y1 y2 g.q fid (L:=g.l) (n:=n) (a:=g.p.length) (b:=m+g.y.length-g.x.length) (k:=g.x.length) (by simp[RotG.l,hy]) j1.symm rfl (by omega) rfl hy2 (by omega)
   obtain⟨b',hb'⟩ : ∃ b',b'=m+g.y.length-g.x.length:=⟨_,rfl⟩
   rw[← hb'] at c1
   have e5:(m:Int)+g.y.length=((m+g.y.length:Nat):Int):=by omega
   obtain⟨s,hs⟩ : ∃ s,s=m+g.y.length:=⟨_,rfl⟩
   have e5:(m:Int)+g.y.length=(s:Nat):=by omega
   have e6:(s:Int)-g.x.length=(b' : Nat):=by omega
   have w5:=wrap64 (n:=(s:Nat)) (by omega) (by omega)
   have w6:=wrap64 (n:=(b' : Nat)) (by omega) (by omega)
   rw[← hy1] at w4 e4
   simp[h1']
   refine XCut.go hmix ?_
   simp[h2',e3,w3,e5,w5,e6,w6]
   refine XCall.retK c1 ?_
   rintro r h' ⟨rfl,rfl⟩
   simp[e4,w4]
   exact⟨⟨g.p,y2,y1,g.x++g.q⟩,by rw[hJ]; exact⟨by rw[← j1]; simp[RotG.l,hy]; omega,by simp only; omega,by simp only; omega,by simp only; omega,by rw[← j5,hy]; simp⟩,by simp only; omega,by simp[RotG.l,leR_refl,hy2]⟩
end Go.Proofs.YtfilonnphgnplaaGreatDoor.Pv
set_option maxRecDepth 100000
namespace Go.Proofs.YtfilonnphgnplaaGreatDoor.Pv
open Go Go.Tidy
def ordI:Ordering→Int
 | .lt=>-1
 | .eq=>0
 | .gt=>1
def CmpOk (fid:Nat) (f:Ob→Ob→Ordering) (D:Ob→Prop):Prop:=∀ a b,D a→D b→Ret prog fid [.agg (cO a),.agg (cO b)] (.int .i64 (ordI (f a b)))
structure InsG where
 p:List Ob
 z1:List Ob
 v:Ob
 z2:List Ob
 q:List Ob
def InsG.l (g:InsG):List Ob:=g.p++g.z1++g.v::(g.z2++g.q)
structure Ins1 where
 p:List Ob
 z:List Ob
 y:List Ob
 q:List Ob
def Ins1.l (g:Ins1):List Ob:=g.p++g.z++g.y++g.q
theorem wrapu64' {n:Int} (h1:0≤n) (h2:n≤18446744073709551615):IntKind.u64.wrap n=n:=by
 simp[IntKind.wrap,IntKind.bits,IntKind.signed]
 omega
theorem get_mid' {α:Type} {p x q L:List α} (hL:L=p++x++q) {k j:Nat} (hk:k<x.length) (hj:j=p.length+k) (h:j<L.length):L[j]=x[k]:=by
 subst hL; subst hj
 rw[List.getElem_append_left (by simp; omega),List.getElem_append_right (by omega)]
 simp
set_option maxHeartbeats 4000000 in
theorem c_insertion (gs gv:Nat) (fl:Bool) (p x q:List Ob) (fid:Nat) {f:Ob→Ob→Ordering} {D:Ob→Prop} (hf:Tot f) (hc:CmpOk fid f D) {L:List Ob} {n a b:Nat} (hL:L=p++x++q) (hn:n=L.length) (ha:a=p.length) (hb:b=p.length+x.length) (hD:∀ o∈L,D o) (hl:n≤34359738368) :
 RetK prog M.F_slices_insertionSortCmpFunc_Obj [.own (gs,gv) 12 0 n fl,.int .i64 a,.int .i64 b,.fn fid [] []] (rowH gs gv L) (fun r h=>r=.tup []∧∃ z,h=rowH gs gv (p++z++q)∧z.Perm x∧Srt f z):=by
 refine RetK.of hmix h_slices_insertionSortCmpFunc_Obj (by simp) fun E hP hV=>?_
 have hgV:=hV (gs,gv) ⟨12,L.map encObj,false,false⟩ (by simp[hk])
 obtain⟨P,w0,F0,nt,G,V,glob⟩:=E
 obtain rfl:P=prog:=hP
 have hlen:L.length=p.length+x.length+q.length:=by rw[hL]; simp; omega
 obtain⟨a1,ha1⟩ : ∃ a1,a1=a+1:=⟨_,rfl⟩
 have e1:(a:Int)+1=(a1:Nat):=by omega
 have w1:=wrap64 (n:=(a1:Nat)) (by omega) (by omega)
 simp[e1,w1]
 obtain⟨J,hJ⟩ : ∃ J:Nat × Ins1→Prop,J=fun g=>g.2.p=p∧g.2.q=q∧g.2.l.length=n∧(g.2.z++g.2.y).Perm x∧Srt f g.2.z∧(∀ o∈g.2.l,D o)∧(g.2.y≠[]→g.1=a+g.2.z.length)∧(g.2.y=[]→b≤g.1)∧a<g.1∧g.1≤n+1:=⟨_,rfl⟩
 obtain⟨z0,y0,hx0,hz1,hz0⟩ : ∃ z0 y0,x=z0++y0∧z0.length≤1∧(x≠[]→z0.length=1):=by
  cases x with
  | nil=>exact⟨[],[],rfl,by simp,by simp⟩
  | cons u x=>exact⟨[u],x,rfl,by simp,by simp⟩
 have hst0:(⟨p,z0,y0,q⟩ : Ins1).l=L:=by rw[hL,hx0]; simp[Ins1.l]
 have hxl0:x.length=z0.length+y0.length:=by rw[hx0]; simp
 have hstart:J (a1,⟨p,z0,y0,q⟩):=by
  rw[hJ]
  refine⟨rfl,rfl,by simp[hst0,hn],by rw[hx0],?_,by simp only[hst0]; exact hD,fun h=>?_,fun h=>?_,by simp only; omega,by simp only; omega⟩
  ·match z0,hz1 with
   | [],_=>exact srt_nil
   | [u],_=>exact srt_one u
  ·have:x≠[]:=by rw[hx0]; simp only at h; simp[h]
   have:=hz0 this
   simp only; omega
  ·simp only at h
   rw[h] at hxl0
   simp at hxl0
   simp only; omega
 refine XLoop.go hmix (fun (g:Nat × Ins1)=>⟨[(8,.int .i64 g.1),(0,.own (gs,gv) 12 0 n fl),(1,.int .i64 a),(2,.int .i64 b),(3,.fn fid [] [])],rowH gs gv g.2.l⟩) J (fun g=>g.2.y.length) (a1,⟨p,z0,y0,q⟩) hstart (by simp[hst0,leR_refl]) fun g hj=>?_
 obtain⟨i,g⟩:=g
 have hj' : g.p=p∧g.q=q∧g.l.length=n∧(g.z++g.y).Perm x∧Srt f g.z∧(∀ o∈g.l,D o)∧(g.y≠[]→i=a+g.z.length)∧(g.y=[]→b≤i)∧a<i∧i≤n+1:=by rw[hJ] at hj; exact hj
 clear hj
 obtain⟨j1,j2,j3,j4,j5,j6,j7,j8,j9,j10⟩:=hj'
 have hxl:g.z.length+g.y.length=x.length:=by rw[← j4.length_eq]; simp
 have hw:=wrap64 (n:=(i:Int)+1) (by omega) (by omega)
 by_cases h1:i<b
 ·have hy0:g.y≠[]:=fun h=>by have:=j8 h; omega
  have hi:=j7 hy0
  obtain⟨v,y',hy⟩:=List.exists_cons_of_ne_nil hy0
  simp[h1]
  obtain⟨J2,hJ2⟩ : ∃ J2:InsG→Prop,J2=fun k=>k.p=p∧k.v=v∧k.q=y'++q∧k.z1++k.z2=g.z∧∀ u∈k.z2,f v u≠.gt:=⟨_,rfl⟩
  have hst2:(⟨p,g.z,v,[],y'++q⟩ : InsG).l=g.l:=by simp[InsG.l,Ins1.l,j1,j2,hy]
  refine XLoop.go hmix (fun (k:InsG)=>⟨[(9,.int .i64 (a+k.z1.length:Nat)),(8,.int .i64 i),(0,.own (gs,gv) 12 0 n fl),(1,.int .i64 a),(2,.int .i64 b),(3,.fn fid [] [])],rowH gs gv k.l⟩) J2 (fun k=>k.z1.length) ⟨p,g.z,v,[],y'++q⟩ (by rw[hJ2]; exact⟨rfl,rfl,rfl,by simp,by simp⟩) (by simp only[hst2]; simp[hi,leR_refl]) fun k hj=>?_
  have hj' : k.p=p∧k.v=v∧k.q=y'++q∧k.z1++k.z2=g.z∧∀ u∈k.z2,f v u≠.gt:=by rw[hJ2] at hj; exact hj
  clear hj
  obtain⟨k1,k2,k3,k4,k5⟩:=hj'
  have hperm:k.l.Perm g.l:=by
   unfold InsG.l Ins1.l
   rw[k1,k2,k3,j1,j2,hy,← k4]
   simp only[List.append_assoc]
   refine List.Perm.append_left p ?_
   refine List.Perm.append_left _ ?_
   simp only[List.cons_append]
   exact (List.perm_middle (a:=v) (l₁:=k.z2) (l₂:=y'++q)).symm
  have hkl:k.l.length=n:=by rw[hperm.length_eq]; exact j3
  have hkD:∀ o∈k.l,D o:=fun o ho=>j6 o (hperm.mem_iff.1 ho)
  have hzl:k.z1.length+k.z2.length=g.z.length:=by rw[← k4]; simp
  have hout:∀ hgo:Srt f (k.z1++v::k.z2),∃ gg:Nat × Ins1,J gg∧gg.2.y.length<g.y.length∧gg.1=i+1∧gg.2.l=k.l:=fun hgo=>by
   have hll:(⟨p,k.z1++v::k.z2,y',q⟩ : Ins1).l=k.l:=by simp[InsG.l,Ins1.l,k1,k2,k3]
   refine⟨(i+1,⟨p,k.z1++v::k.z2,y',q⟩),?_,by simp[hy],rfl,hll⟩
   rw[hJ]
   refine⟨rfl,rfl,by simp only[hll]; exact hkl,?_,hgo,by simp only[hll]; exact hkD,fun _=>by simp; omega,fun h=>?_,by simp only; omega,by simp only; omega⟩
   ·refine List.Perm.trans ?_ j4
    rw[hy,← k4]
    simp only[List.append_assoc,List.cons_append]
    exact List.Perm.append_left _ (List.perm_middle (a:=v) (l₁:=k.z2) (l₂:=y')).symm
   ·simp only at h
    rw[h] at hy
    rw[hy] at hxl
    simp at hxl
    simp only; omega
  rcases List.eq_nil_or_concat k.z1 with hz|⟨z1',u,hz⟩
  ·obtain⟨gg,g1,g2,g3,g4⟩:=hout (by
      rw[hz]
      refine srt_cons.2 ⟨k5,?_⟩
      rw[← k4,hz] at j5
      simpa using j5)
   simp[hz]
   exact fun _ _=>⟨gg.1,gg.2,g1,g2,by rw[hw,g3]; rfl,by rw[g4]; exact leR_refl _ _⟩
  ·obtain⟨d,hd⟩ : ∃ d,d=a+k.z1.length:=⟨_,rfl⟩
   obtain⟨d1,hd1⟩ : ∃ d1,d1=a+z1'.length:=⟨_,rfl⟩
   have hzl' : k.z1.length=z1'.length+1:=by rw[hz]; simp
   rw[← hd]
   have ed:(d:Int)-1=(d1:Nat):=by omega
   have w2:=wrap64 (n:=(d1:Nat)) (by omega) (by omega)
   have q1:d<k.l.length:=by omega
   have q2:d1<k.l.length:=by omega
   have q3:d<n:=by omega
   have q4:d1<n:=by omega
   have q5:a<d:=by omega
   have hkl1:k.l=p++z1'++u::(v::(k.z2++k.q)):=by simp[InsG.l,k1,k2,hz]
   have hv:k.l[d]=v:=get_mid' (p:=p++z1'++[u]) (x:=[v]) (q:=k.z2++k.q) (by rw[hkl1]; simp) (k:=0) (by simp) (by simp; omega) q1
   have hu:k.l[d1]=u:=get_mid' (p:=p++z1') (x:=[u]) (q:=v::(k.z2++k.q)) (by rw[hkl1]; simp) (k:=0) (by simp) (by simp; omega) q2
   have hcc:=hc v u (hkD v (by rw[← hv]; exact List.getElem_mem _)) (hkD u (by rw[← hu]; exact List.getElem_mem _))
   simp[q1,q2,q3,q4,q5,ed,w2,hv,hu]
   intro v' _
   refine XDCall.ret hcc ?_
   by_cases hlt:f v u=.lt
   ·have hs:=rows_swap q1 q2
    have hsw:swapN k.l d d1=(⟨p,z1',v,u::k.z2,k.q⟩ : InsG).l:=by
     rw[hkl1]
     have:=swapN_sym (p++z1') [] (k.z2++k.q) u v (a:=d1) (b:=d) (by simp; omega) (by simp; omega)
     simpa[InsG.l] using this
    rw[hsw,hv,hu] at hs
    have hrow:((k.l.map encObj).set d (cO u))[d1]'(by simpa using q2)=cO u:=by
     rw[List.getElem_set,if_neg (by omega)]
     simp[hu]
    obtain⟨l2,hl2⟩ : ∃ l2,(⟨p,z1',v,u::k.z2,k.q⟩ : InsG).l=l2:=⟨_,rfl⟩
    rw[hl2] at hs
    simp[hlt,ordI,q1,q2,q3,q4,q5,ed,w2,hv,hu,hrow,hs]
    refine fun _ _=>⟨⟨p,z1',v,u::k.z2,k.q⟩,?_,by simp only; omega,by simp[hl2,hd1,leR_refl]⟩
    rw[hJ2]
    refine⟨rfl,rfl,k3,by rw[← k4,hz]; simp,fun y hy=>?_⟩
    rcases List.mem_cons.1 hy with rfl|hy
    ·exact hf.lt_le hlt
    ·exact k5 y hy
   ·have hge:¬ ordI (f v u)<0:=by cases e:f v u<;>simp_all [ordI]
    obtain⟨gg,g1,g2,g3,g4⟩:=hout (srt_ins hf (by rw[k4]; exact j5) (fun y hy=>by
     rw[hz,List.concat_eq_append,List.getLast?_concat] at hy
     simp only[Option.mem_def,Option.some.injEq] at hy
     subst hy
     exact hf.nlt hlt) k5)
    simp[hge]
    exact⟨gg.1,gg.2,g1,g2,by rw[hw,g3]; rfl,by rw[g4]; exact leR_refl _ _⟩
 ·have hy0:g.y=[]:=by
     rcases List.eq_nil_or_concat g.y with h|⟨_,_,h⟩
     ·exact h
     ·have:=j7 (by rw[h]; simp)
      have:0<g.y.length:=by rw[h]; simp
      omega
  simp[h1]
  have hfin:g.l=p++g.z++q:=by simp[Ins1.l,j1,j2,hy0]
  refine⟨rowH gs gv g.l,⟨g.z,by rw[hfin]; simp,by simpa[hy0] using j4,j5⟩,by simp,?_⟩
  intro a1 b1 _
  by_cases hk:a1=gs∧b1=gv<;>simp[hk,leR_refl]
end Go.Proofs.YtfilonnphgnplaaGreatDoor.Pv
set_option maxRecDepth 100000
namespace Go.Proofs.YtfilonnphgnplaaGreatDoor.Pv
open Go Go.Tidy
theorem get_mid {α:Type} {p x q L:List α} (hL:L=p++x++q) {k j:Nat} (hk:k<x.length) (hj:j=p.length+k) (h:j<L.length):L[j]=x[k]:=by
 subst hL; subst hj
 rw[List.getElem_append_left (by simp; omega),List.getElem_append_right (by omega)]
 simp
theorem fd2 (s:Nat):((s:Nat):Int).fdiv 2=((s / 2:Nat):Int):=by
 rw[Int.fdiv_eq_ediv_of_nonneg _ (by omega)]; omega
theorem p2u:(2:Int) ^ min 1 IntKind.u64.bits=2:=by decide
set_option maxHeartbeats 4000000 in
theorem symMerge_l (gs gv:Nat) (fl:Bool) (p:List Ob) (u:Ob) (y q:List Ob) (fid:Nat) {f:Ob→Ob→Ordering} {D:Ob→Prop} (hf:Tot f) (hc:CmpOk fid f D) {L:List Ob} {n a m b:Nat} (hL:L=p++u::(y++q)) (hn:n=L.length) (ha:a=p.length) (hm:m=a+1) (hb:b=m+y.length) (py:0<y.length) (hy:Srt f y) (hD:∀ o∈L,D o) (hl:n≤34359738368) :
 RetK prog M.F_slices_symMergeCmpFunc_Obj [.own (gs,gv) 12 0 n fl,.int .i64 a,.int .i64 m,.int .i64 b,.fn fid [] []] (rowH gs gv L) (fun r h=>r=.tup []∧∃ z,h=rowH gs gv (p++z++q)∧z.Perm (u::y)∧Srt f z):=by
 refine RetK.of hmix h_slices_symMergeCmpFunc_Obj (by simp) fun E hP hV=>?_
 have hgV:=hV (gs,gv) ⟨12,L.map encObj,false,false⟩ (by simp[hk])
 obtain⟨P,w0,F0,nt,G,V,glob⟩:=E
 obtain rfl:P=prog:=hP
 have hlen:n=a+1+y.length+q.length:=by rw[hn,hL]; simp; omega
 have e1:(m:Int)-a=1:=by omega
 have w1:=wrap64 (n:=1) (by omega) (by omega)
 have hu:∀ h:a<L.length,L[a]=u:=fun h=>get_mid (p:=p) (x:=[u]) (q:=y++q) (by rw[hL]; simp) (k:=0) (by simp) (by omega) h
 have hyk:∀ k j (hk:k<y.length) (hj:j<L.length),j=m+k→L[j]=y[k]:=fun k j hk hj e=>get_mid (p:=p++[u]) (x:=y) (q:=q) (by rw[hL]; simp) hk (by simp; omega) hj
 have haL:a<L.length:=by omega
 have hua:=hu haL
 simp[e1,w1]
 obtain⟨J,hJ⟩ : ∃ J:Nat × Nat→Prop,J=fun g=>m≤g.1∧g.1≤g.2∧g.2≤b∧(∀ k (hk:k<y.length),m+k+1=g.1→f y[k] u=.lt)∧(∀ k (hk:k<y.length),m+k=g.2→f y[k] u≠.lt):=⟨_,rfl⟩
 refine XLoop.go hmix (fun (g:Nat × Nat)=>⟨[(10,.int .i64 g.1),(11,.int .i64 g.2),(0,.own (gs,gv) 12 0 n fl),(1,.int .i64 a),(2,.int .i64 m),(3,.int .i64 b),(4,.fn fid [] [])],rowH gs gv L⟩) J (fun g=>g.2-g.1) (m,b) (by rw[hJ]; exact⟨Nat.le_refl _,by simp only; omega,Nat.le_refl _,fun k _ h=>by simp only at h; omega,fun k _ h=>by simp only at h; omega⟩) (by simp[leR_refl]) fun g hj=>?_
 obtain⟨i,j⟩:=g
 have hj' : m≤i∧i≤j∧j≤b∧(∀ k (hk:k<y.length),m+k+1=i→f y[k] u=.lt)∧(∀ k (hk:k<y.length),m+k=j→f y[k] u≠.lt):=by rw[hJ] at hj; exact hj
 clear hj
 obtain⟨j1,j2,j3,j4,j5⟩:=hj'
 by_cases h1:i<j
 ·obtain⟨s,hs⟩ : ∃ s,s=i+j:=⟨_,rfl⟩
  have es:(i:Int)+j=(s:Nat):=by omega
  have w2:=wrap64 (n:=(s:Nat)) (by omega) (by omega)
  have w3:=wrapu64' (n:=(s:Nat)) (by omega) (by omega)
  obtain⟨h,hh⟩ : ∃ h,h=s / 2:=⟨_,rfl⟩
  have ef:=fd2 s
  rw[← hh] at ef
  have w4:=wrapu64' (n:=(h:Nat)) (by omega) (by omega)
  have w5:=wrap64 (n:=(h:Nat)) (by omega) (by omega)
  have w6:=wrap64 (n:=(h:Int)+1) (by omega) (by omega)
  have hhL:h<L.length:=by omega
  obtain⟨k,hk⟩ : ∃ k,h=m+k:=⟨h-m,by omega⟩
  have hky:k<y.length:=by omega
  have hv:=hyk k h hky hhL hk
  have han:a<n:=by omega
  have hhn:h<n:=by omega
  simp[h1,es,w2,w3,p2u,ef,w4,w5]
  refine XCut.go hmix ?_
  simp[hhL,haL,han,hhn,hv,hua]
  intro v _
  refine XDCall.ret (hc _ _ (hD _ (by rw[← hv]; exact List.getElem_mem _)) (hD _ (by rw[← hua]; exact List.getElem_mem _))) ?_
  by_cases hlt:f y[k] u=.lt
  ·simp[hlt,ordI,w6]
   refine⟨h+1,j,?_,by omega,by simp⟩
   rw[hJ]
   refine⟨by simp only; omega,by simp only; omega,j3,fun k' hk' e=>?_,j5⟩
   have:k'=k:=by simp only at e; omega
   subst this; exact hlt
  ·have hge:¬ ordI (f y[k] u)<0:=by cases e:f y[k] u<;>simp_all [ordI]
   simp[hge]
   refine⟨i,h,?_,by omega,by simp⟩
   rw[hJ]
   refine⟨j1,by simp only; omega,by simp only; omega,j4,fun k' hk' e=>?_⟩
   have:k'=k:=by simp only at e; omega
   subst this; exact hlt
 ·obtain rfl:i=j:=by omega
  simp[h1]
  clear hJ J
  obtain⟨t,ht⟩ : ∃ t,i=m+t:=⟨i-m,by omega⟩
  have hty:t≤y.length:=by omega
  obtain⟨W,hW⟩ : ∃ W:Nat→List Ob,∀ k,W k=p++y.take k++u::(y.drop k++q):=⟨fun k=>p++y.take k++u::(y.drop k++q),fun _=>rfl⟩
  have hW0:W 0=L:=by rw[hW,hL]; simp
  obtain⟨c,hcc⟩ : ∃ c,c=a+t:=⟨_,rfl⟩
  have e2:(i:Int)-1=(c:Nat):=by omega
  have w2:=wrap64 (n:=(c:Nat)) (by omega) (by omega)
  refine XLoop.cnt hmix t (fun k (_:Unit)=>⟨[(13,.int .i64 (a+k:Nat)),(10,.int .i64 i),(0,.own (gs,gv) 12 0 n fl),(1,.int .i64 a),(2,.int .i64 m),(3,.int .i64 b),(4,.fn fid [] [])],rowH gs gv (W k)⟩) (fun _ _=>True) () trivial (by simp[hW0,leR_refl]) fun k _ hk _=>?_
  obtain⟨d,hd⟩ : ∃ d,d=a+k:=⟨_,rfl⟩
  rw[← hd]
  by_cases h2:k<t
  ·have h2' : (d:Int)<c:=by omega
   have hky:k<y.length:=by omega
   have hWl:(W k).length=n:=by rw[hW,hlen]; simp; omega
   obtain⟨d1,hd1⟩ : ∃ d1,d1=d+1:=⟨_,rfl⟩
   have e3:(d:Int)+1=(d1:Nat):=by omega
   have w3:=wrap64 (n:=(d1:Nat)) (by omega) (by omega)
   have q1:d<(W k).length:=by omega
   have q2:d1<(W k).length:=by omega
   have q3:d<n:=by omega
   have q4:d1<n:=by omega
   have hs:=rows_swap q1 q2
   have hsw:swapN (W k) d d1=W (k+1):=by
    rw[hW,hW,List.take_succ_eq_append_getElem hky,cons_take hky]
    have:=swapN_at (p++y.take k) [] (y.drop (k+1)++q) u y[k] (a:=d) (b:=d1) (by simp; omega) (by simp; omega)
    simp only[List.append_assoc,List.cons_append,List.nil_append,List.singleton_append] at this ⊢
    exact this
   rw[hsw] at hs
   have hrow:(((W k).map encObj).set d (cO (W k)[d1]))[d1]'(by simpa using q2)=cO (W k)[d1]:=by
    rw[List.getElem_set]; split
    ·rfl
    ·simp
   have hdk:a+(k+1)=d1:=by omega
   obtain⟨l2,hl2⟩ : ∃ l2,W (k+1)=l2:=⟨_,rfl⟩
   rw[hl2] at hs
   generalize W k=l1 at *
   simp[h2,h2',e2,w2,e3,w3,q1,q2,q3,q4,hrow,hs]
   exact fun _ _=>⟨by omega,by rw[hl2]; exact leR_refl _ _⟩
  ·have h2' : ¬ (d:Int)<c:=by omega
   obtain rfl:k=t:=by omega
   simp[h2',e2,w2]
   refine⟨rowH gs gv (W k),⟨y.take k++u::y.drop k,by rw[hW]; simp,?_,srt_cut_l hf hy hty (fun k' hk' e=>j4 k' hk' (by omega)) (fun hk'=>j5 k hk' (by omega))⟩,?_,?_⟩
   ·exact (List.perm_middle (a:=u) (l₁:=y.take k) (l₂:=y.drop k)).trans (by rw[List.take_append_drop])
   ·simp
   ·intro a1 b1 _
    by_cases hk:a1=gs∧b1=gv<;>simp[hk,leR_refl]
set_option maxHeartbeats 4000000 in
theorem symMerge_r (gs gv:Nat) (fl:Bool) (p x:List Ob) (v:Ob) (q:List Ob) (fid:Nat) {f:Ob→Ob→Ordering} {D:Ob→Prop} (hf:Tot f) (hc:CmpOk fid f D) {L:List Ob} {n a m b:Nat} (hL:L=p++x++v::q) (hn:n=L.length) (ha:a=p.length) (hm:m=a+x.length) (hb:b=m+1) (px:1<x.length) (hx:Srt f x) (hD:∀ o∈L,D o) (hl:n≤34359738368) :
 RetK prog M.F_slices_symMergeCmpFunc_Obj [.own (gs,gv) 12 0 n fl,.int .i64 a,.int .i64 m,.int .i64 b,.fn fid [] []] (rowH gs gv L) (fun r h=>r=.tup []∧∃ z,h=rowH gs gv (p++z++q)∧z.Perm (x++[v])∧Srt f z):=by
 refine RetK.of hmix h_slices_symMergeCmpFunc_Obj (by simp) fun E hP hV=>?_
 have hgV:=hV (gs,gv) ⟨12,L.map encObj,false,false⟩ (by simp[hk])
 obtain⟨P,w0,F0,nt,G,V,glob⟩:=E
 obtain rfl:P=prog:=hP
 have hlen:n=a+x.length+1+q.length:=by rw[hn,hL]; simp; omega
 have e0:(m:Int)-a=(x.length:Nat):=by omega
 have w0':=wrap64 (n:=(x.length:Nat)) (by omega) (by omega)
 have n0:¬ (x.length:Int)=1:=by omega
 have e1:(b:Int)-m=1:=by omega
 have w1:=wrap64 (n:=1) (by omega) (by omega)
 have hvm:∀ h:m<L.length,L[m]=v:=fun h=>get_mid (p:=p++x) (x:=[v]) (q:=q) (by rw[hL]; simp) (k:=0) (by simp) (by simp; omega) h
 have hxk:∀ k j (hk:k<x.length) (hj:j<L.length),j=a+k→L[j]=x[k]:=fun k j hk hj e=>get_mid (p:=p) (x:=x) (q:=v::q) (by rw[hL]) hk (by omega) hj
 have hmL:m<L.length:=by omega
 have hva:=hvm hmL
 simp[e0,w0',n0,e1,w1]
 obtain⟨J,hJ⟩ : ∃ J:Nat × Nat→Prop,J=fun g=>a≤g.1∧g.1≤g.2∧g.2≤m∧(∀ k (hk:k<x.length),a+k+1=g.1→f v x[k]≠.lt)∧(∀ k (hk:k<x.length),a+k=g.2→f v x[k]=.lt):=⟨_,rfl⟩
 refine XLoop.go hmix (fun (g:Nat × Nat)=>⟨[(14,.int .i64 g.1),(15,.int .i64 g.2),(0,.own (gs,gv) 12 0 n fl),(1,.int .i64 a),(2,.int .i64 m),(3,.int .i64 b),(4,.fn fid [] [])],rowH gs gv L⟩) J (fun g=>g.2-g.1) (a,m) (by rw[hJ]; exact⟨Nat.le_refl _,by simp only; omega,Nat.le_refl _,fun k _ h=>by simp only at h; omega,fun k _ h=>by simp only at h; omega⟩) (by simp[leR_refl]) fun g hj=>?_
 obtain⟨i,j⟩:=g
 have hj' : a≤i∧i≤j∧j≤m∧(∀ k (hk:k<x.length),a+k+1=i→f v x[k]≠.lt)∧(∀ k (hk:k<x.length),a+k=j→f v x[k]=.lt):=by rw[hJ] at hj; exact hj
 clear hj
 obtain⟨j1,j2,j3,j4,j5⟩:=hj'
 by_cases h1:i<j
 ·obtain⟨s,hs⟩ : ∃ s,s=i+j:=⟨_,rfl⟩
  have es:(i:Int)+j=(s:Nat):=by omega
  have w2:=wrap64 (n:=(s:Nat)) (by omega) (by omega)
  have w3:=wrapu64' (n:=(s:Nat)) (by omega) (by omega)
  obtain⟨h,hh⟩ : ∃ h,h=s / 2:=⟨_,rfl⟩
  have ef:=fd2 s
  rw[← hh] at ef
  have w4:=wrapu64' (n:=(h:Nat)) (by omega) (by omega)
  have w5:=wrap64 (n:=(h:Nat)) (by omega) (by omega)
  have w6:=wrap64 (n:=(h:Int)+1) (by omega) (by omega)
  have hhL:h<L.length:=by omega
  obtain⟨k,hk⟩ : ∃ k,h=a+k:=⟨h-a,by omega⟩
  have hkx:k<x.length:=by omega
  have hv:=hxk k h hkx hhL hk
  have hmn:m<n:=by omega
  have hhn:h<n:=by omega
  simp[h1,es,w2,w3,p2u,ef,w4,w5]
  refine XCut.go hmix ?_
  simp[hhL,hmL,hmn,hhn,hv,hva]
  intro v' _
  refine XDCall.ret (hc _ _ (hD _ (by rw[← hva]; exact List.getElem_mem _)) (hD _ (by rw[← hv]; exact List.getElem_mem _))) ?_
  by_cases hlt:f v x[k]=.lt
  ·simp[hlt,ordI]
   refine⟨i,h,?_,by omega,by simp⟩
   rw[hJ]
   refine⟨j1,by simp only; omega,by simp only; omega,j4,fun k' hk' e=>?_⟩
   have:k'=k:=by simp only at e; omega
   subst this; exact hlt
  ·have hge:¬ ordI (f v x[k])<0:=by cases e:f v x[k]<;>simp_all [ordI]
   simp[hge,w6]
   refine⟨h+1,j,?_,by omega,by simp⟩
   rw[hJ]
   refine⟨by simp only; omega,by simp only; omega,j3,fun k' hk' e=>?_,j5⟩
   have:k'=k:=by simp only at e; omega
   subst this; exact hlt
 ·obtain rfl:i=j:=by omega
  simp[h1]
  clear hJ J
  obtain⟨t,ht⟩ : ∃ t,i=a+t:=⟨i-a,by omega⟩
  have htx:t≤x.length:=by omega
  obtain⟨W,hW⟩ : ∃ W:Nat→List Ob,∀ k,W k=p++x.take k++v::(x.drop k++q):=⟨fun k=>p++x.take k++v::(x.drop k++q),fun _=>rfl⟩
  have hW0:W x.length=L:=by rw[hW,hL]; simp
  refine XLoop.go hmix (fun k=>⟨[(17,.int .i64 (a+k:Nat)),(14,.int .i64 i),(0,.own (gs,gv) 12 0 n fl),(1,.int .i64 a),(2,.int .i64 m),(3,.int .i64 b),(4,.fn fid [] [])],rowH gs gv (W k)⟩) (fun k=>t≤k∧k≤x.length) (fun k=>k) x.length ⟨htx,Nat.le_refl _⟩ (by simp[hW0,leR_refl,hm]) fun k hj=>?_
  obtain⟨k1,k2⟩:=hj
  obtain⟨d,hd⟩ : ∃ d,d=a+k:=⟨_,rfl⟩
  rw[← hd]
  have hWl:(W k).length=n:=by rw[hW,hlen]; simp; omega
  by_cases h2:t<k
  ·obtain⟨k',rfl⟩ : ∃ k',k=k'+1:=⟨k-1,by omega⟩
   have h2' : (i:Int)<d:=by omega
   have hkx:k' < x.length:=by omega
   obtain⟨d1,hd1⟩ : ∃ d1,d1=a+k':=⟨_,rfl⟩
   have e3:(d:Int)-1=(d1:Nat):=by omega
   have w3:=wrap64 (n:=(d1:Nat)) (by omega) (by omega)
   have q1:d<(W (k'+1)).length:=by omega
   have q2:d1<(W (k'+1)).length:=by omega
   have q3:d<n:=by omega
   have q4:d1<n:=by omega
   have hs:=rows_swap q1 q2
   have hsw:swapN (W (k'+1)) d d1=W k':=by
    rw[hW,hW,List.take_succ_eq_append_getElem hkx,cons_take hkx]
    have:=swapN_sym (p++x.take k') [] (x.drop (k'+1)++q) x[k'] v (a:=d1) (b:=d) (by simp; omega) (by simp; omega)
    simp only[List.append_assoc,List.cons_append,List.nil_append,List.singleton_append] at this ⊢
    exact this
   rw[hsw] at hs
   have hrow:(((W (k'+1)).map encObj).set d (cO (W (k'+1))[d1]))[d1]'(by simpa using q2)=cO (W (k'+1))[d1]:=by
    rw[List.getElem_set]; split
    ·rfl
    ·simp
   obtain⟨l2,hl2⟩ : ∃ l2,W k'=l2:=⟨_,rfl⟩
   rw[hl2] at hs
   generalize W (k'+1)=l1 at *
   simp[h2',e3,w3,q1,q2,q3,q4,hrow,hs]
   exact fun _ _=>⟨k',⟨by omega,by omega⟩,by omega,by simp[hl2,hd1,leR_refl]⟩
  ·have h2' : ¬ (i:Int)<d:=by omega
   obtain rfl:k=t:=by omega
   simp[h2']
   refine⟨rowH gs gv (W k),⟨x.take k++v::x.drop k,by rw[hW]; simp,?_,srt_cut_r hf hx htx (fun k' hk' e=>j4 k' hk' (by omega)) (fun hk'=>j5 k hk' (by omega))⟩,?_,?_⟩
   ·refine (List.perm_middle (a:=v) (l₁:=x.take k) (l₂:=x.drop k)).trans ?_
    rw[List.take_append_drop]
    exact (List.perm_append_singleton v x).symm
   ·simp
   ·intro a1 b1 _
    by_cases hk:a1=gs∧b1=gv<;>simp[hk,leR_refl]
end Go.Proofs.YtfilonnphgnplaaGreatDoor.Pv
set_option maxRecDepth 100000
namespace Go.Proofs.YtfilonnphgnplaaGreatDoor.Pv
open Go Go.Tidy
def MergeOk (gs gv fid:Nat) (f:Ob→Ob→Ordering) (D:Ob→Prop) (N:Nat):Prop :=
 ∀ (fl:Bool) (p x y q:List Ob) (L:List Ob) (n a m b:Nat),x.length+y.length≤N→L=p++x++y++q→n=L.length→a=p.length→m=a+x.length→b=m+y.length→0<x.length→0<y.length→Srt f x→Srt f y→(∀ o∈L,D o)→n≤34359738368 →
   RetK prog M.F_slices_symMergeCmpFunc_Obj [.own (gs,gv) 12 0 n fl,.int .i64 a,.int .i64 m,.int .i64 b,.fn fid [] []] (rowH gs gv L) (fun r h=>r=.tup []∧∃ z,h=rowH gs gv (p++z++q)∧z.Perm (x++y)∧Srt f z)
theorem leR_eq {hl:Key→Option HE} {a b:List (List PV)} (h:a=b):leR hl a b:=h ▸ leR_refl hl a
set_option maxHeartbeats 8000000 in
theorem symMerge_step (gs gv fid:Nat) {f:Ob→Ob→Ordering} {D:Ob→Prop} (hf:Tot f) (hc:CmpOk fid f D) (N:Nat) (ih:MergeOk gs gv fid f D N)
 (fl:Bool) (p x y q:List Ob) (L:List Ob) (n a m b:Nat) (hN:x.length+y.length≤N+1) (hL:L=p++x++y++q) (hn:n=L.length) (ha:a=p.length) (hm:m=a+x.length) (hb:b=m+y.length) (px:1<x.length) (py:1<y.length) (hx:Srt f x) (hy:Srt f y) (hD:∀ o∈L,D o) (hl:n≤34359738368) :
 RetK prog M.F_slices_symMergeCmpFunc_Obj [.own (gs,gv) 12 0 n fl,.int .i64 a,.int .i64 m,.int .i64 b,.fn fid [] []] (rowH gs gv L) (fun r h=>r=.tup []∧∃ z,h=rowH gs gv (p++z++q)∧z.Perm (x++y)∧Srt f z):=by
 refine RetK.of hmix h_slices_symMergeCmpFunc_Obj (by simp) fun E hP hV=>?_
 have hgV:=hV (gs,gv) ⟨12,L.map encObj,false,false⟩ (by simp[hk])
 obtain⟨P,w0,F0,nt,G,V,glob⟩:=E
 obtain rfl:P=prog:=hP
 have hlen:n=a+x.length+y.length+q.length:=by rw[hn,hL]; simp; omega
 have e0:(m:Int)-a=(x.length:Nat):=by omega
 have w0':=wrap64 (n:=(x.length:Nat)) (by omega) (by omega)
 have n0:¬ (x.length:Int)=1:=by omega
 have e1:(b:Int)-m=(y.length:Nat):=by omega
 have w1:=wrap64 (n:=(y.length:Nat)) (by omega) (by omega)
 have n1:¬ (y.length:Int)=1:=by omega
 obtain⟨s0,hs0⟩ : ∃ s,s=a+b:=⟨_,rfl⟩
 have es:(a:Int)+b=(s0:Nat):=by omega
 have w2:=wrap64 (n:=(s0:Nat)) (by omega) (by omega)
 have w3:=wrapu64' (n:=(s0:Nat)) (by omega) (by omega)
 obtain⟨mid,hmid⟩ : ∃ h,h=s0 / 2:=⟨_,rfl⟩
 have ef:=fd2 s0
 rw[← hmid] at ef
 have w4:=wrapu64' (n:=(mid:Nat)) (by omega) (by omega)
 have w5:=wrap64 (n:=(mid:Nat)) (by omega) (by omega)
 obtain⟨nn,hnn⟩ : ∃ nn,nn=mid+m:=⟨_,rfl⟩
 have e2:(mid:Int)+m=(nn:Nat):=by omega
 have w6:=wrap64 (n:=(nn:Nat)) (by omega) (by omega)
 obtain⟨lo,hi,hlh⟩ : ∃ lo hi,(mid<m∧lo=nn-b∧hi=mid)∨(m≤mid∧lo=a∧hi=m):=by
  rcases Nat.lt_or_ge mid m with h|h
  ·exact⟨_,_,.inl ⟨h,rfl,rfl⟩⟩
  ·exact⟨_,_,.inr ⟨h,rfl,rfl⟩⟩
 have hxk:∀ k j (hk:k<x.length) (hj:j<L.length),j=a+k→L[j]=x[k]:=fun k j hk hj e=>get_mid (p:=p) (x:=x) (q:=y++q) (by rw[hL]; simp) hk (by omega) hj
 have hyk:∀ k j (hk:k<y.length) (hj:j<L.length),j=m+k→L[j]=y[k]:=fun k j hk hj e=>get_mid (p:=p++x) (x:=y) (q:=q) (by rw[hL]) hk (by simp; omega) hj
 simp[e0,w0',n0,e1,w1,n1,es,w2,w3,p2u,ef,w4,w5,e2,w6]
 refine XCut.one hmix ⟨[(20,.int .i64 lo),(21,.int .i64 hi),(18,.int .i64 mid),(19,.int .i64 nn),(0,.own (gs,gv) 12 0 n fl),(1,.int .i64 a),(2,.int .i64 m),(3,.int .i64 b),(4,.fn fid [] [])],rowH gs gv L⟩ ?_ ?_
 ·rcases hlh with ⟨h1,h2,h3⟩|⟨h1,h2,h3⟩
  ·have h1' : (mid:Int)<m:=by omega
   have e3:(nn:Int)-b=(lo:Nat):=by omega
   have w7:=wrap64 (n:=(lo:Nat)) (by omega) (by omega)
   simp[h1,h1',e3,w7,h3,leR_refl]
  ·have h1' : ¬ (mid:Int)<m:=by omega
   simp[h1',h2,h3,leR_refl]
 have hlo1:a≤lo:=by omega
 have hlh1:lo≤hi:=by omega
 have hhi1:hi≤m:=by omega
 obtain⟨pp,hpp⟩ : ∃ pp,pp=nn-1:=⟨_,rfl⟩
 have e3:(nn:Int)-1=(pp:Nat):=by omega
 have w7:=wrap64 (n:=(pp:Nat)) (by omega) (by omega)
 simp[e3,w7]
 obtain⟨J,hJ⟩ : ∃ J:Nat × Nat→Prop,J=fun g=>lo≤g.1∧g.1≤g.2∧g.2≤hi∧(∀ k jj (hk:k<x.length) (hj:jj<y.length),a+k+1=g.1→lo<g.1→m+jj+g.1=nn→f y[jj] x[k]≠.lt)∧(∀ k jj (hk:k<x.length) (hj:jj<y.length),a+k=g.2→g.2<hi→m+jj+g.2+1=nn→f y[jj] x[k]=.lt):=⟨_,rfl⟩
 refine XLoop.go hmix (fun (g:Nat × Nat)=>⟨[(20,.int .i64 g.1),(21,.int .i64 g.2),(22,.int .i64 pp),(18,.int .i64 mid),(19,.int .i64 nn),(0,.own (gs,gv) 12 0 n fl),(1,.int .i64 a),(2,.int .i64 m),(3,.int .i64 b),(4,.fn fid [] [])],rowH gs gv L⟩) J (fun g=>g.2-g.1) (lo,hi) (by rw[hJ]; exact⟨Nat.le_refl _,hlh1,Nat.le_refl _,fun _ _ _ _ _ h=>absurd h (Nat.lt_irrefl _),fun _ _ _ _ _ h=>absurd h (Nat.lt_irrefl _)⟩) (by simp[leR_refl]) fun g hj=>?_
 obtain⟨i,j⟩:=g
 have hj' : lo≤i∧i≤j∧j≤hi∧(∀ k jj (hk:k<x.length) (hj:jj<y.length),a+k+1=i→lo<i→m+jj+i=nn→f y[jj] x[k]≠.lt)∧(∀ k jj (hk:k<x.length) (hj:jj<y.length),a+k=j→j<hi→m+jj+j+1=nn→f y[jj] x[k]=.lt):=by rw[hJ] at hj; exact hj
 clear hj
 obtain⟨j1,j2,j3,j4,j5⟩:=hj'
 by_cases h1:i<j
 ·obtain⟨s,hs⟩ : ∃ s,s=i+j:=⟨_,rfl⟩
  have es' : (i:Int)+j=(s:Nat):=by omega
  have v2:=wrap64 (n:=(s:Nat)) (by omega) (by omega)
  have v3:=wrapu64' (n:=(s:Nat)) (by omega) (by omega)
  obtain⟨h,hh⟩ : ∃ h,h=s / 2:=⟨_,rfl⟩
  have ef':=fd2 s
  rw[← hh] at ef'
  have v4:=wrapu64' (n:=(h:Nat)) (by omega) (by omega)
  have v5:=wrap64 (n:=(h:Nat)) (by omega) (by omega)
  have v6:=wrap64 (n:=(h:Int)+1) (by omega) (by omega)
  obtain⟨t,ht⟩ : ∃ t,t=pp-h:=⟨_,rfl⟩
  have e4:(pp:Int)-h=(t:Nat):=by omega
  have v7:=wrap64 (n:=(t:Nat)) (by omega) (by omega)
  obtain⟨k,hk⟩ : ∃ k,h=a+k:=⟨h-a,by omega⟩
  obtain⟨kk,hkk⟩ : ∃ kk,t=m+kk:=⟨t-m,by omega⟩
  have hkx:k<x.length:=by omega
  have hky:kk<y.length:=by omega
  have hhL:h<L.length:=by omega
  have htL:t<L.length:=by omega
  have hhn:h<n:=by omega
  have htn:t<n:=by omega
  have hv:=hxk k h hkx hhL hk
  have hu:=hyk kk t hky htL hkk
  simp[h1,es',v2,v3,p2u,ef',v4,v5]
  refine XCut.go hmix ?_
  simp[hhL,htL,hhn,htn,hv,hu,e4,v7]
  intro v' _
  refine XDCall.ret (hc _ _ (hD _ (by rw[← hu]; exact List.getElem_mem _)) (hD _ (by rw[← hv]; exact List.getElem_mem _))) ?_
  by_cases hlt:f y[kk] x[k]=.lt
  ·simp[hlt,ordI]
   refine⟨i,h,?_,by omega,by simp⟩
   rw[hJ]
   refine⟨j1,by simp only; omega,by simp only; omega,j4,fun k' jj hk' hj' c1 c2 c3=>?_⟩
   simp only at c1 c2 c3
   obtain rfl:k'=k:=by omega
   obtain rfl:jj=kk:=by omega
   exact hlt
  ·have hge:¬ ordI (f y[kk] x[k])<0:=by cases e:f y[kk] x[k]<;>simp_all [ordI]
   simp[hge,v6]
   refine⟨h+1,j,?_,by omega,by simp⟩
   rw[hJ]
   refine⟨by simp only; omega,by simp only; omega,j3,fun k' jj hk' hj' c1 c2 c3=>?_,j5⟩
   simp only at c1 c2 c3
   obtain rfl:k'=k:=by omega
   obtain rfl:jj=kk:=by omega
   exact hlt
 ·obtain rfl:i=j:=by omega
  obtain⟨en,hen⟩ : ∃ en,en=nn-i:=⟨_,rfl⟩
  have e4:(nn:Int)-i=(en:Nat):=by omega
  have v4:=wrap64 (n:=(en:Nat)) (by omega) (by omega)
  have hem:m≤en:=by omega
  have heb:en≤b:=by omega
  obtain⟨x1,x2,hx12,hx1⟩ : ∃ x1 x2,x=x1++x2∧x1=x.take (i-a):=⟨_,_,(List.take_append_drop (i-a) x).symm,rfl⟩
  obtain⟨y1,y2,hy12,hy1⟩ : ∃ y1 y2,y=y1++y2∧y1=y.take (en-m):=⟨_,_,(List.take_append_drop (en-m) y).symm,rfl⟩
  have hx1l:x1.length=i-a:=by rw[hx1]; simp; omega
  have hy1l:y1.length=en-m:=by rw[hy1]; simp; omega
  have hx2:x2=x.drop (i-a):=by rw[hx12,List.drop_left' hx1l]
  have hy2:y2=y.drop (en-m):=by rw[hy12,List.drop_left' hy1l]
  have hxl:x.length=x1.length+x2.length:=by rw[hx12]; simp
  have hyl:y.length=y1.length+y2.length:=by rw[hy12]; simp
  have hcross:=srt_cross (i:=i-a) (j:=en-m) hf hx hy (by omega) (by omega) (fun k hk hj' e=>j4 k (en-m) hk hj' (by omega) (by omega) (by omega)) (fun k hk hi' e=>j5 (i-a) k hi' hk (by omega) (by omega) (by omega))
  rw[← hx1,← hy1,← hx2,← hy2] at hcross
  have sx1:Srt f x1:=by rw[hx1]; exact srt_take hx _
  have sx2:Srt f x2:=by rw[hx2]; exact srt_drop hx _
  have sy1:Srt f y1:=by rw[hy1]; exact srt_take hy _
  have sy2:Srt f y2:=by rw[hy2]; exact srt_drop hy _
  clear j4 j5 hx1 hy1 hx2 hy2
  obtain⟨L2,hL2⟩ : ∃ L2,L2=p++x1++y1++(x2++y2++q):=⟨_,rfl⟩
  have hL2l:L2.length=n:=by rw[hL2,hlen]; simp; omega
  have hpm:L2.Perm L:=by
   rw[hL2,hL,hx12,hy12]
   simp only[List.append_assoc]
   exact List.Perm.append_left p (List.Perm.append_left x1 (List.perm_append_comm_assoc _ _ _))
  have hD2:∀ o∈L2,D o:=fun o ho=>hD o (hpm.mem_iff.1 ho)
  simp[h1,e4,v4]
  refine XCut.one hmix ⟨[(20,.int .i64 i),(24,.int .i64 en),(18,.int .i64 mid),(0,.own (gs,gv) 12 0 n fl),(1,.int .i64 a),(2,.int .i64 m),(3,.int .i64 b),(4,.fn fid [] [])],rowH gs gv L2⟩ ?_ ?_
  ·by_cases g1:i<m
   ·by_cases g2:m<en
    ·have c1:=c_rotate gs gv fl (p++x1) x2 y1 (y2++q) fid (L:=L) (n:=n) (a:=i) (m:=m) (b:=en) (by rw[hL,hx12,hy12]; simp) hn (by simp; omega) (by simp; omega) (by simp; omega) (by omega) (by omega) hl
     simp[g1,g2]
     refine XCall.retK c1 ?_
     rintro r h' ⟨rfl,rfl⟩
     have:p++x1++y1++x2++(y2++q)=L2:=by rw[hL2]; simp
     rw[this]
     simp[leR_refl]
    ·have:y1=[]:=List.length_eq_zero_iff.1 (by omega)
     have:L=L2:=by rw[hL2,hL,hx12,hy12,this]; simp
     simp[g1,g2,this,leR_refl]
   ·have:x2=[]:=List.length_eq_zero_iff.1 (by omega)
    have:L=L2:=by rw[hL2,hL,hx12,hy12,this]; simp
    simp[g1,this,leR_refl]
  simp
  refine XCut.many hmix (fun z1=>⟨[(24,.int .i64 en),(18,.int .i64 mid),(0,.own (gs,gv) 12 0 n fl),(1,.int .i64 a),(2,.int .i64 m),(3,.int .i64 b),(4,.fn fid [] [])],rowH gs gv (p++z1++(x2++y2++q))⟩) (fun z1=>z1.Perm (x1++y1)∧Srt f z1) ?_ ?_
  ·have hno:(x1=[]∨y1=[])→Srt f (x1++y1):=fun h=>by
      rcases h with h|h
      ·rw[h]; simpa using sy1
      ·rw[h]; simpa using sx1
   by_cases g1:a<i
   ·by_cases g2:i<mid
    ·have c1:=ih fl p x1 y1 (x2++y2++q) L2 n a i mid (by omega) hL2 hL2l.symm ha (by omega) (by omega) (by omega) (by omega) sx1 sy1 hD2 hl
     simp[g1,g2]
     refine XCall.retK c1 ?_
     rintro r h' ⟨rfl,z1,rfl,hz1,hz2⟩
     generalize hZ:p++z1++(x2++y2++q)=Z
     simp
     exact⟨z1,⟨hz1,hz2⟩,leR_eq (by rw[← hZ]; simp)⟩
    ·have:y1=[]:=List.length_eq_zero_iff.1 (by omega)
     simp[g1,g2]
     exact⟨x1++y1,⟨List.Perm.refl _,hno (.inr this)⟩,leR_eq (by rw[hL2]; simp)⟩
   ·have:x1=[]:=List.length_eq_zero_iff.1 (by omega)
    simp[g1]
    exact⟨x1++y1,⟨List.Perm.refl _,hno (.inl this)⟩,leR_eq (by rw[hL2]; simp)⟩
  rintro z1 ⟨hz1,hz2⟩
  have hz1l:z1.length=x1.length+y1.length:=by rw[hz1.length_eq]; simp
  obtain⟨L3,hL3⟩ : ∃ L3,L3=(p++z1)++x2++y2++q:=⟨_,rfl⟩
  have hL3e:p++z1++(x2++y2++q)=L3:=by rw[hL3]; simp
  have hL3l:L3.length=n:=by rw[hL3,hlen]; simp; omega
  have hpm3:L3.Perm L2:=by
   rw[← hL3e,hL2]
   simp only[List.append_assoc]
   refine List.Perm.append_left p ?_
   rw[← List.append_assoc x1]
   exact List.Perm.append_right _ hz1
  have hD3:∀ o∈L3,D o:=fun o ho=>hD2 o (hpm3.mem_iff.1 ho)
  have hperm:∀ z2:List Ob,z2.Perm (x2++y2)→(z1++z2).Perm (x++y):=fun z2 h=>by
   refine (List.Perm.append hz1 h).trans ?_
   rw[hx12,hy12]
   simp only[List.append_assoc]
   refine List.Perm.append_left x1 ?_
   rw[← List.append_assoc,← List.append_assoc]
   exact List.Perm.append_right _ List.perm_append_comm
  rw[hL3e]
  simp
  refine XCut.many hmix (fun z2=>⟨[],rowH gs gv (p++(z1++z2)++q)⟩) (fun z2=>z2.Perm (x2++y2)∧Srt f z2) ?_ ?_
  ·have hno:(x2=[]∨y2=[])→Srt f (x2++y2):=fun h=>by
      rcases h with h|h
      ·rw[h]; simpa using sy2
      ·rw[h]; simpa using sx2
   by_cases g1:mid<en
   ·by_cases g2:en<b
    ·have c1:=ih fl (p++z1) x2 y2 q L3 n mid en b (by omega) hL3 hL3l.symm (by simp; omega) (by omega) (by omega) (by omega) (by omega) sx2 sy2 hD3 hl
     simp[g1,g2]
     refine XCall.retK c1 ?_
     rintro r h' ⟨rfl,z2,rfl,hz3,hz4⟩
     generalize hZ:p++z1++z2++q=Z
     simp
     exact⟨z2,⟨hz3,hz4⟩,leR_eq (by rw[← hZ]; simp)⟩
    ·have:y2=[]:=List.length_eq_zero_iff.1 (by omega)
     simp[g1,g2]
     exact⟨x2++y2,⟨List.Perm.refl _,hno (.inr this)⟩,leR_eq (by rw[hL3]; simp)⟩
   ·have:x2=[]:=List.length_eq_zero_iff.1 (by omega)
    simp[g1]
    exact⟨x2++y2,⟨List.Perm.refl _,hno (.inl this)⟩,leR_eq (by rw[hL3]; simp)⟩
  rintro z2 ⟨hz3,hz4⟩
  generalize hZ:p++(z1++z2)++q=Z
  simp
  refine⟨rowH gs gv Z,⟨z1++z2,by rw[← hZ]; simp,hperm z2 hz3,srt_both hz2 hz4 hz1 hz3 hcross⟩,by simp,?_⟩
  intro a1 b1 _
  by_cases hk:a1=gs∧b1=gv<;>simp[hk,leR_refl]
theorem c_symMerge (gs gv fid:Nat) {f:Ob→Ob→Ordering} {D:Ob→Prop} (hf:Tot f) (hc:CmpOk fid f D):∀ N,MergeOk gs gv fid f D N
 | 0=>fun fl p x y q L n a m b hN _ _ _ _ _ px=>by omega
 | N+1=>fun fl p x y q L n a m b hN hL hn ha hm hb px py hx hy hD hl=>by
   by_cases h1:x.length=1
   ·obtain⟨u,rfl⟩:=List.length_eq_one_iff.1 h1
    have:=symMerge_l gs gv fl p u y q fid hf hc (L:=L) (n:=n) (a:=a) (m:=m) (b:=b) (by rw[hL]; simp) hn ha (by simpa using hm) hb py hy hD hl
    simpa using this
   ·by_cases h2:y.length=1
    ·obtain⟨v,rfl⟩:=List.length_eq_one_iff.1 h2
     exact symMerge_r gs gv fl p x v q fid hf hc (L:=L) (n:=n) (a:=a) (m:=m) (b:=b) (by rw[hL]; simp) hn ha hm (by simpa using hb) (by omega) hx hD hl
    ·exact symMerge_step gs gv fid hf hc N (c_symMerge gs gv fid hf hc N) fl p x y q L n a m b hN hL hn ha hm hb (by omega) (by omega) hx hy hD hl
end Go.Proofs.YtfilonnphgnplaaGreatDoor.Pv
