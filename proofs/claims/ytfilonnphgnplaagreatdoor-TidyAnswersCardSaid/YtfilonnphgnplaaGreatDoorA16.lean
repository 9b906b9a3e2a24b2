/- Part 16. -/
import Derived.Test.YtfilonnphgnplaaGreatDoorA15
set_option linter.unusedSimpArgs false
set_option linter.unusedVariables false
set_option maxRecDepth 100000
namespace Go.Proofs.YtfilonnphgnplaaGreatDoor.Pv
open Go Go.Tidy
theorem asj {hl:Key→Option HE} {a b:List (List PV)} (h:a=b):leR hl a b:=h ▸ aK hl a
def Iq (ns:List S) (a b:PV) (r:Ty):List PV:=[.vec 1 false (ns.map encStr),a,b,.bool r.all,.bool r.null,.bool r.fls,.bool r.tru,.vec 2 false (r.nums.map dH),.bool r.any,.vec 1 false (r.texts.map encStr),.vec 11 false (r.arrays.map dh),.vec 12 false (r.objects.map av)]
theorem aKE {α:Type} (f:α→Bool) {l:List α} {k:Nat} (hk:k<l.length):(l.take (k+1)).all f=((l.take k).all f&&f l[k]):=by
 rw[List.take_succ_eq_append_getElem hk,List.all_append]; simp
section
variable {w0:World} {F0:Nat→Prop} {hG:GOk prog w0 F0}
set_option maxHeartbeats 8000000 in
theorem aHs (NM:List S) (m:Nat) (l:List Ob) (hf:∀ o∈l,bf o=true) (hm:∀ o∈l,bdO NM m o) (h4:l.length*m≤4294967296) (hl:l.length≤34359738368) (ns:List S) (hn:ns.length≤34359738368) (r:Ty) (v2 v9:Nat) :
 XC ⟨prog,w0,F0,94,[],0,hG⟩ (.seq (.seq (.reg [M.o 50 (.faddr (.t 9) 0),M.o 51 (.load (.t 50) 1 false),M.o 52 (.len (.t 51)),M.o 53 (.mv (.k (.int .i64 0)))]) (.block 4 (.loop M.aem))) M.ad5)
  ⟨[(9,.ptr (9,v9) 12 0 0),(2,.ptr (2,v2) 12 0 0),(0,.vec 12 false (l.map av))],[((9,v9),some ⟨12,[Iq ns (.vec 9 true []) (.vec 1 true []) r],false,true⟩),((2,v2),some ⟨12,[M.z4],false,true⟩)]⟩ []
  (uw M.amG (.agg (cO (.mk ns (ns.map fun n=>oh (l.map fun o=>(bg o n).1)) (ns.map fun n=>l.all fun o=>(bg o n).2) r)))):=by
 obtain⟨fF,hfF⟩ : ∃ fF:S→Ty,fF=fun n=>oh (l.map fun o=>(bg o n).1):=⟨_,rfl⟩
 obtain⟨fM,hfM⟩ : ∃ fM:S→Bool,fM=fun n=>l.all fun o=>(bg o n).2:=⟨_,rfl⟩
 rw[← hfF,← hfM]
 obtain⟨R,hR⟩ : ∃ R,R=Ob.mk ns (ns.map fF) (ns.map fM) r:=⟨_,rfl⟩
 rw[← hR]
 simp[Iq]
 obtain⟨J,hJ⟩ : ∃ J:Nat→(List Ty × List Bool)→Prop,J=fun k g=>g.1=(ns.take k).map fF∧g.2=(ns.take k).map fM:=⟨_,rfl⟩
 refine aU.xG ah [(2000009,9,1001),(3000009,1,1002)] rfl ns.length (fun v k (g:List Ty × List Bool)=>⟨[(53,.int .i64 k),(52,.int .i64 ns.length),(51,.vec 1 false (ns.map encStr)),(9,.ptr (9,v9) 12 0 0),(2,.ptr (2,v2) 12 0 0),(0,.vec 12 false (l.map av))],
  [((9,v9),some ⟨12,[Iq ns (.own (1001,v) 9 0 g.1.length false) (.own (1002,v) 1 0 g.2.length false) r],false,true⟩),((1001,v),some ⟨9,g.1.map eU,false,false⟩),((1002,v),some ⟨1,g.2.map jH,false,false⟩),((2,v2),some ⟨12,[M.z4],false,true⟩)]⟩) J ([],[]) (by rw[hJ]; exact⟨rfl,rfl⟩) (fun v=>by simp[Iq]) fun v k g _ hk hj=>?_
 obtain⟨fs,ms⟩:=g
 have hj' : fs=(ns.take k).map fF∧ms=(ns.take k).map fM:=by rw[hJ] at hj; exact hj
 clear hj
 obtain⟨j1,j2⟩:=hj'
 have hfl:fs.length=k:=by rw[j1]; simp; omega
 have hml:ms.length=k:=by rw[j2]; simp; omega
 have hw:=wrap64 (n:=(k:Int)+1) (by omega) (by omega)
 by_cases g1:k<ns.length
 ·have st1:(ns.take (k+1)).map fF=fs++[fF ns[k]]:=by rw[qd fF g1,j1]
  have st2:(ns.take (k+1)).map fM=ms++[fM ns[k]]:=by rw[qd fM g1,j2]
  have hJn:J (k+1) (fs++[fF ns[k]],ms++[fM ns[k]]):=by rw[hJ]; exact⟨st1.symm,st2.symm⟩
  have cT':=NG ahc abf NM m (l.map fun o=>(bg o ns[k]).1) (fun t ht=>by
   obtain⟨o,ho,rfl⟩:=List.mem_map.1 ht
   obtain⟨o1,o2,o3,o4,o5,o6⟩:=dz (hf o ho)
   rcases ajA o ns[k] with h|h
   ·exact o5 _ h
   ·rw[h]; exact o4) (fun t ht=>by
   obtain⟨o,ho,rfl⟩:=List.mem_map.1 ht
   exact ahP (hm o ho) _) (by simpa using h4)
  have hFk:fF ns[k]=oh (l.map fun o=>(bg o ns[k]).1):=by rw[hfF]
  have hMk:fM ns[k]=l.all fun o=>(bg o ns[k]).2:=by rw[hfM]
  rw[← hFk] at cT'
  generalize hx:ns[k]=x at *
  generalize fF x=z at *
  simp[g1,Iq,hx]
  intro v3
  obtain⟨J2,hJ2⟩ : ∃ J2:Nat→(List Ty × Bool)→Prop,J2=fun j p=>p.1=(l.take j).map (fun o=>(bg o x).1)∧p.2=(l.take j).all (fun o=>(bg o x).2):=⟨_,rfl⟩
  refine aU.xG ah [(2000009,9,1001),(3000009,1,1002),(12,9,1003)] rfl l.length (fun v j (p:List Ty × Bool)=>⟨[(60,.int .i64 j),(59,.int .i64 l.length),(58,.vec 12 false (l.map av)),(12,.own (1003,v) 9 0 p.1.length false),(13,.bool p.2),(11,.str x),(53,.int .i64 k),(52,.int .i64 ns.length),(51,.vec 1 false (ns.map encStr)),(9,.ptr (9,v9) 12 0 0),(2,.ptr (2,v2) 12 0 0),(0,.vec 12 false (l.map av))],
   [((9,v9),some ⟨12,[Iq ns (.own (1001,v) 9 0 fs.length false) (.own (1002,v) 1 0 ms.length false) r],false,true⟩),((1001,v),some ⟨9,fs.map eU,false,false⟩),((1002,v),some ⟨1,ms.map jH,false,false⟩),((1003,v),some ⟨9,p.1.map eU,false,false⟩),((2,v2),some ⟨12,[M.z4],false,true⟩)]⟩) J2 ([],true) (by rw[hJ2]; exact⟨rfl,rfl⟩) (fun v=>by simp[Iq]) fun u j p _ hj hjp=>?_
  obtain⟨sd,mu⟩:=p
  have hjp' : sd=(l.take j).map (fun o=>(bg o x).1)∧mu=(l.take j).all (fun o=>(bg o x).2):=by rw[hJ2] at hjp; exact hjp
  clear hjp
  obtain⟨p1,p2⟩:=hjp'
  have hsl:sd.length=j:=by rw[p1]; simp; omega
  have hwj:=wrap64 (n:=(j:Int)+1) (by omega) (by omega)
  by_cases g2:j<l.length
  ·have ho:=hf _ (List.getElem_mem g2)
   obtain⟨o1,o2,o3,o4,o5,o6⟩:=dz ho
   have cf:=aA0 l[j] x o1 o2 (JH o3).1
   have s1:(l.take (j+1)).map (fun o=>(bg o x).1)=sd++[(bg l[j] x).1]:=by rw[qd _ g2,p1]
   have s2:(l.take (j+1)).all (fun o=>(bg o x).2)=(mu&&(bg l[j] x).2):=by rw[aKE _ g2,p2]
   have hJ2n:J2 (j+1) (sd++[(bg l[j] x).1],mu&&(bg l[j] x).2):=by rw[hJ2]; exact⟨s1.symm,s2.symm⟩
   generalize (bg l[j] x).1=y at *
   generalize (bg l[j] x).2=b at *
   simp[g2,Iq,-Bool.exists_bool]
   intro v4
   refine aj.ret cf ?_
   simp[g2,-Bool.exists_bool]
   intro v5 v6
   refine⟨by omega,sd++[y],mu&&b,hJ2n,fun v=>⟨⟨hwj,by simp,rfl⟩,asj (by simp)⟩⟩
  ·have e1:sd=l.map (fun o=>(bg o x).1):=by rw[p1,List.take_of_length_le (by omega)]
   have e2:mu=fM x:=by rw[p2,List.take_of_length_le (by omega),hMk]
   rw[← e1] at cT'
   simp[g2,Iq,-Bool.exists_bool]
   intro v5
   refine aH.ret (r:=.agg (cT z)) (by simpa using cT') ?_
   simp[Iq,-Bool.exists_bool]
   exact⟨by omega,fun v=>⟨by omega,g1,fs++[z],ms++[mu],by rw[e2]; exact hJn,fun v1=>⟨hw,⟨by simp,by simp⟩,asj (by simp),asj (by simp)⟩⟩⟩
 ·have hR' : R=.mk ns fs ms r:=by rw[hR,j1,j2,List.take_of_length_le (by omega)]
  simp[g1,Iq,hR']
end
end Go.Proofs.YtfilonnphgnplaaGreatDoor.Pv
set_option maxRecDepth 100000
namespace Go.Proofs.YtfilonnphgnplaaGreatDoor.Pv
open Go Go.Tidy Go.RowKit
section
variable {P:Program} {kt et:TypeId} {w0:World} {F0:Nat→Prop} {nt b b2 n:Nat} {o2:Option Obj} {ks:List ByteArray} {st:St} {a:Act} {w:World}
theorem uo.step (ah:P.follows .mixedOrders=true) {c:Code} {m:MC} {Q:Exit→Act→World→Prop} (h:uo P kt et w0 F0 nt b b2 o2 n ks st a w) (hm:fq P nt c=some m) (he:m.erase=m) (ex:Ex) (ts:List (Nat × Nat × Nat)) (hts:zy ts=true) (S2:Nat→Nat→St)
 (hx:∀ w1 F1 hG,XC ⟨P,w1,F1,nt,[],0,hG⟩ m st [] fun e st'=>e=ex∧∃ u,∀ v,LS (lU ts v st') (S2 u v))
 (hK:∀ u v a' w',uo P kt et w0 F0 nt b b2 o2 n ks (S2 u v) a' w'→Q (Ex.to ex) a' w'):c.wp P Q a w:=by
 refine wp_mono (uo.run ah (by rw[he]; exact hm) h hx) ?_
 rintro e a' w' ⟨ex',st',rfl,⟨rfl,u,hl⟩,hr⟩
 obtain⟨v,hr'⟩:=hr.canon ts hts
 exact hK u v a' w' (hr'.ls (hl v))
theorem akV {id:Nat} {Q:Exit→Act→World→Prop} (h:Q .normal a w):Exit.inBlock id Q (.exit id) a w:=by simp[Exit.inBlock,h]
end
def tS (b b2 off:Nat) (l:List Ob) (v k:Nat) (rs:List Ty):St:=⟨[(22,.int .i64 k),(21,.int .i64 l.length),(20,.vec 12 false (l.map av)),(4,.own (1004,v) 9 0 rs.length false),(3,.raw (.map (some b))),(2,.raw (.pointer (some ⟨b2,off,none⟩))),(0,.vec 12 false (l.map av))],
 [((1004,v),some ⟨9,rs.map eU,false,false⟩)]⟩
def tI (b b2 off:Nat) (l:List Ob) (v k:Nat) (rs:List Ty) (u:Nat) (o:Ob) (x:List (Nat × PV)):St:=⟨x++[(6,.ptr (6,u) 12 0 0),(5,.int .i64 k),(22,.int .i64 k),(21,.int .i64 l.length),(20,.vec 12 false (l.map av)),(4,.own (1004,v) 9 0 rs.length false),(3,.raw (.map (some b))),(2,.raw (.pointer (some ⟨b2,off,none⟩))),(0,.vec 12 false (l.map av))],
 [((6,u),some ⟨12,[cO o],false,true⟩),((1004,v),some ⟨9,rs.map eU,false,false⟩)]⟩
def tJ (o:Ob) (j:Nat):List (Nat × PV):=[(30,.int .i64 j),(29,.int .i64 o.names.length),(28,.vec 1 false (o.names.map encStr))]
section
variable {w0:World} {F0:Nat→Prop} {kt et b b2 off:Nat} {o2:Option Obj} {l:List Ob}
theorem aGP (hT:aFP prog 164 kt et) {Q:Exit→Act→World→Prop} {k:Nat} {rs:List Ty} {u v n0 N0:Nat} {o:Ob} {ks0:List S} {a:Act} {w:World} (hol:o.names.length≤34359738368) (hk:k≤34359738368) {c:Code} (hc:fq prog 94 c=some (.block 2 (.loop M.ak5))) (hN:N0+o.names.length<maxLen) (hn0:n0≤N0)
 (h:uo prog kt et w0 F0 94 b b2 o2 n0 ks0 (tI b b2 off l v k rs u o (tJ o 0)) a w)
 (hQ:∀ v u n ks a w,n≤N0+o.names.length→(∀ s,s∈ks↔s∈ks0∨s∈o.names)→uo prog kt et w0 F0 94 b b2 o2 n ks (tI b b2 off l v k rs u o []) a w→Q .normal a w):c.wp prog Q a w:=by
 obtain⟨cl,rfl,hl⟩:=adp hc
 obtain⟨cb,rfl,hb⟩:=zk hl
 refine wp_block ?_
 refine wp_loop_ghost (fun m a w=>∃ v j n ks,j≤o.names.length∧o.names.length-j=m∧n≤N0+j∧(∀ s,s∈ks↔s∈ks0∨s∈o.names.take j)∧uo prog kt et w0 F0 94 b b2 o2 n ks (tI b b2 off l v k rs u o (tJ o j)) a w) o.names.length ⟨v,0,n0,ks0,by omega,by simp,by omega,by simp,h⟩ ?_
 rintro m a w ⟨v,j,n,ks,hj,rfl,hn,hks,h⟩
 obtain⟨c1,c2,rfl,h1,h2⟩:=o9 hb
 obtain⟨c3,c4,rfl,h3,h4⟩:=o9 h2
 obtain⟨c5,c6,rfl,h5,h6⟩:=o9 h4
 obtain⟨c7,rfl,h7⟩:=adp h5
 obtain⟨c8,c9,rfl,h8,h9⟩:=o9 h7
 obtain⟨id,ops,rfl,hops⟩:=anw h9
 have hw:=wrap64 (n:=(j:Int)+1) (by omega) (by omega)
 by_cases g:j<o.names.length
 ·refine wp_seq (h.step ah h1 rfl .normal [(4,9,1004)] rfl (fun _ v=>tI b b2 off l v k rs u o ((31,.bool true)::tJ o j)) (fun w1 F1 hG=>by simp[tI,tJ,g]) fun _ v a w h=>?_)
  refine wp_seq (h.step ah h3 rfl .normal [(4,9,1004)] rfl (fun _ v=>tI b b2 off l v k rs u o (tJ o j)) (fun w1 F1 hG=>by simp[tI,tJ,g]) fun _ v a w h=>?_)
  refine wp_seq (wp_block ?_)
  refine wp_seq (h.step ah h8 rfl .normal [(4,9,1004)] rfl (fun _ v=>tI b b2 off l v k rs u o ((8,.str o.names[j])::tJ o j)) (fun w1 F1 hG=>by simp[tI,tJ,g]) fun _ v a w h=>?_)
  refine wp_region_list ?_
  obtain⟨l1,l2,e1,k1,k2⟩:=am5 (ms1:=[M.o 34 (.mv (.t 3)),M.o 35 (.mv (.t 8)),M.o 36 (.mv (.t 5))]) hops
  obtain⟨o1,l3,rfl,k3,k4⟩:=QG k2
  obtain rfl:=avb k4
  rw[e1]
  obtain⟨w1,F1,hG,r1,r2,r3⟩:=h
  refine vk (E:=⟨prog,w1,F1,94,[],0,hG⟩) (K:=fun st'=>LS st' (tI b b2 off l v k rs u o ((36,.int .i64 k)::(35,.str o.names[j])::(34,.raw (.map (some b)))::tJ o j))) ?_ l1 _ _ a w k1 r3 (by
   show XR _ [M.o 34 (.mv (.t 3)),M.o 35 (.mv (.t 8)),M.o 36 (.mv (.t 5))] _ [] (fun _ st'=>LS st' _)
   simp[tI,tJ,aK])
  intro st' a w hl hr
  have h:uo prog kt et w0 F0 94 b b2 o2 n ks (tI b b2 off l v k rs u o ((36,.int .i64 k)::(35,.str o.names[j])::(34,.raw (.map (some b)))::tJ o j)) a w:=⟨w1,F1,hG,r1,r2,hl.le a w hr⟩
  refine h.set hT k3 (s:=o.names[j]) (i:=k) rfl rfl rfl (by omega) fun w' h=>?_
  show Exit.inBlock 3 _ .normal a w'
  refine h.step ah h6 rfl .normal [(4,9,1004)] rfl (fun _ v=>tI b b2 off l v k rs u o (tJ o (j+1))) (fun w1 F1 hG=>by simp[tI,tJ,g,hw]) fun _ v a w h=>?_
  refine⟨o.names.length-(j+1),by omega,v,j+1,n+1,_,by omega,rfl,by omega,fun s=>?_,h⟩
  rw[List.take_succ_eq_append_getElem g]
  simp only[List.mem_cons,hks,List.mem_append,List.not_mem_nil,or_false]
  constructor
  ·rintro (h|h|h)<;>simp[h]
  ·rintro (h|h|h)<;>simp[h]
 ·refine wp_seq (h.step ah h1 rfl .normal [(4,9,1004)] rfl (fun _ v=>tI b b2 off l v k rs u o ((31,.bool false)::tJ o j)) (fun w1 F1 hG=>by simp[tI,tJ,g]) fun _ v a w h=>?_)
  refine wp_seq (h.step ah h3 rfl (.exit 2) [(4,9,1004)] rfl (fun _ v=>tI b b2 off l v k rs u o []) (fun w1 F1 hG=>by simp[tI,tJ,g]) fun _ v a w h=>?_)
  show Exit.inBlock 2 Q (.exit 2) a w
  refine akV (hQ v u n ks a w (by omega) (fun s=>?_) h)
  rw[hks,List.take_of_length_le (by omega)]
theorem aFS (hT:aFP prog 164 kt et) (m:Nat) (hm:∀ o∈l,o.names.length≤m) (hm' : m≤34359738368) (hl:l.length≤34359738368) {Q:Exit→Act→World→Prop} {v:Nat} {a:Act} {w:World} {c:Code} (hc:fq prog 94 c=some (.block 0 (.loop M.akz))) (hN:l.length*m+m<maxLen)
 (h:uo prog kt et w0 F0 94 b b2 o2 0 [] (tS b b2 off l v 0 []) a w)
 (hQ:∀ n ks a w,(∀ s,s∈ks↔∃ o∈l,s∈o.names)→uo prog kt et w0 F0 94 b b2 o2 n ks ⟨[(4,.vec 9 false ((l.map Ob.rest).map eU)),(3,.raw (.map (some b))),(2,.raw (.pointer (some ⟨b2,off,none⟩))),(0,.vec 12 false (l.map av))],[]⟩ a w→Q .normal a w):c.wp prog Q a w:=by
 obtain⟨cl,rfl,hlp⟩:=adp hc
 obtain⟨cb,rfl,hb⟩:=zk hlp
 refine wp_block ?_
 refine wp_loop_ghost (fun x a w=>∃ v k n ks rs,k≤l.length∧l.length-k=x∧n≤k*m∧rs=(l.take k).map Ob.rest∧(∀ s,s∈ks↔∃ o∈l.take k,s∈o.names)∧uo prog kt et w0 F0 94 b b2 o2 n ks (tS b b2 off l v k rs) a w) l.length ⟨v,0,0,[],[],by omega,by simp,by omega,by simp,by simp,h⟩ ?_
 rintro x a w ⟨v,k,n,ks,rs,hk,rfl,hn,hrs,hks,h⟩
 have hrl:rs.length=k:=by rw[hrs]; simp; omega
 obtain⟨c1,c2,rfl,h1,h2⟩:=o9 hb
 obtain⟨c3,c4,rfl,h3,h4⟩:=o9 h2
 obtain⟨c5,c6,rfl,h5,h6⟩:=o9 h4
 obtain⟨c7,rfl,h7⟩:=adp h5
 obtain⟨c8,c9,rfl,h8,h9⟩:=o9 h7
 obtain⟨c10,c11,rfl,h10,h11⟩:=o9 h9
 obtain⟨c12,c13,rfl,h12,h13⟩:=o9 h10
 have hw:=wrap64 (n:=(k:Int)+1) (by omega) (by omega)
 by_cases g:k<l.length
 ·have hkm:(k+1)*m≤l.length*m:=Nat.mul_le_mul_right m g
  have hkm' : (k+1)*m=k*m+m:=Nat.succ_mul k m
  have hom:=hm _ (List.getElem_mem g)
  have hrl2:rs.length≤68719476735:=by omega
  have st1:(l.take (k+1)).map Ob.rest=rs++[l[k].rest]:=by rw[qd _ g,hrs]
  refine wp_seq (h.step ah h1 rfl .normal [(4,9,1004)] rfl (fun _ v=>⟨(23,.bool true)::(tS b b2 off l v k rs).s,(tS b b2 off l v k rs).h⟩) (fun w1 F1 hG=>by simp[tS,g]) fun _ v a w h=>?_)
  refine wp_seq (h.step ah h3 rfl .normal [(4,9,1004)] rfl (fun _ v=>tS b b2 off l v k rs) (fun w1 F1 hG=>by simp[tS,g]) fun _ v a w h=>?_)
  refine wp_seq (wp_block ?_)
  refine wp_seq (h.step ah h8 rfl .normal [(4,9,1004)] rfl (fun u v=>tI b b2 off l v k rs u l[k] []) (fun w1 F1 hG=>by
   simp[tS,tI,g]
   intro u
   exact⟨u,fun v=>by simp⟩) fun u v a w h=>?_)
  generalize ho:l[k]=o at *
  refine wp_seq (wp_seq (h.step ah h12 rfl .normal [(4,9,1004)] rfl (fun _ v=>tI b b2 off l v k rs u o (tJ o 0)) (fun w1 F1 hG=>by simp[tI,tJ]) fun _ v a w h=>?_))
  refine aGP hT (by omega) (by omega) h13 (N0:=k*m) (by omega) hn h fun v u n' ks' a w hn' hks' h=>?_
  refine h.step ah h11 rfl .normal [(4,9,1004)] rfl (fun _ v=>tS b b2 off l v k (rs++[o.rest])) (fun w1 F1 hG=>by simp[tS,tI,hrl2]) fun _ v a w h=>?_
  refine h.step ah h6 rfl .normal [(4,9,1004)] rfl (fun _ v=>tS b b2 off l v (k+1) (rs++[o.rest])) (fun w1 F1 hG=>by simp[tS,hw]) fun _ v a w h=>?_
  refine⟨l.length-(k+1),by omega,v,k+1,n',ks',_,by omega,rfl,by omega,st1.symm,fun s=>?_,h⟩
  rw[hks',hks,List.take_succ_eq_append_getElem g,ho]
  simp only[List.mem_append,List.mem_singleton]
  constructor
  ·rintro (⟨o',h1,h2⟩|h)
   ·exact⟨o',.inl h1,h2⟩
   ·exact⟨o,.inr rfl,h⟩
  ·rintro⟨o',h1|rfl,h2⟩
   ·exact .inl ⟨o',h1,h2⟩
   ·exact .inr h2
 ·refine wp_seq (h.step ah h1 rfl .normal [(4,9,1004)] rfl (fun _ v=>⟨(23,.bool false)::(tS b b2 off l v k rs).s,(tS b b2 off l v k rs).h⟩) (fun w1 F1 hG=>by simp[tS,g]) fun _ v a w h=>?_)
  have hrs' : rs=l.map Ob.rest:=by rw[hrs,List.take_of_length_le (by omega)]
  refine wp_seq (h.step ah h3 rfl (.exit 0) [] rfl (fun _ v=>⟨[(4,.vec 9 false (rs.map eU)),(3,.raw (.map (some b))),(2,.raw (.pointer (some ⟨b2,off,none⟩))),(0,.vec 12 false (l.map av))],[]⟩) (fun w1 F1 hG=>by simp[tS,g]) fun _ v a w h=>?_)
  show Exit.inBlock 0 Q (.exit 0) a w
  refine akV (hQ n ks a w (fun s=>?_) (hrs' ▸ h))
  rw[hks,List.take_of_length_le (by omega)]
end
theorem aHD {NM:List S} {m:Nat} {o:Ob} (hf:bf o=true) (hm:bdO NM m o):o.names.length≤NM.length:=zn (kG hf) hm.1
set_option maxHeartbeats 4000000 in
theorem apk {kt et:TypeId} (hS:ac9 prog 164 kt et M.MQ M.xk) (NM:List S) (m:Nat) (l:List Ob) (hf:∀ o∈l,bf o=true) (hm:∀ o∈l,bdO NM m o) (h4:l.length*m≤4294967296) (hl:l.length≤34359738368) (hNM:NM.length≤134217728) :
 Ret prog M.ZX [.vec 12 false (l.map av)] (.agg (cO (pq l))):=by
 refine Ret.of_wp aGd (by simp) fun c htm w0 F0 hG a hg=>?_
 have hF0:∀ x,F0 x→x<w0.heap.size:=fun x hx=>(hg.fz x hx).1
 replace htm:fq prog 94 c=some M.aq5:=htm
 obtain⟨c1,c2,rfl,h1,h2⟩:=o9 htm
 obtain⟨c3,c4,rfl,h3,h4'⟩:=o9 h2
 obtain⟨c5,c6,rfl,h5,h6⟩:=o9 h4'
 obtain⟨c7,c8,rfl,h7,h8⟩:=o9 h6
 obtain⟨c9,c10,rfl,h9,h10⟩:=o9 h7
 obtain⟨c11,c12,rfl,h11,h12⟩:=o9 h8
 have hnl:∀ o∈l,o.names.length≤NM.length:=fun o ho=>aHD (hf o ho) (hm o ho)
 have hmul:l.length*NM.length≤34359738368*134217728:=Nat.mul_le_mul hl hNM
 have hmax:l.length*NM.length+NM.length<maxLen:=by unfold maxLen; omega
 have cT':=NG ahc abf NM m (l.map Ob.rest) (fun t ht=>by
  obtain⟨o,ho,rfl⟩:=List.mem_map.1 ht
  exact (dz (hf o ho)).2.2.2.1) (fun t ht=>by
  obtain⟨o,ho,rfl⟩:=List.mem_map.1 ht
  exact (hm o ho).2.2) (by simpa using h4)
 refine wp_seq (wp_mono (jk (E:=⟨prog,w0,F0,94,[],0,hG⟩) ah c1 (.reg [M.o 2 (.alloc M.z4)]) _ a w0 (fun e st'=>e=.normal∧∃ v2,st'=⟨[(2,.ptr (2,v2) 12 0 0),(0,.vec 12 false (l.map av))],[((2,v2),some ⟨12,[M.z4],false,true⟩)]⟩) h1 ⟨_,hg⟩ ?_) ?_)
 ·show XC _ _ _ [] _
  simp
 rintro e a w ⟨ex,st',rfl,⟨rfl,v2,rfl⟩,hr⟩
 obtain⟨id,ops,rfl,hops⟩:=anw h3
 refine wp_seq (wp_region_list (aF7 (kt:=kt) (et:=et) (z:=M.z4) (x0:=.vec 12 false (l.map av)) hF0 (by decide) (by decide) (by decide) (by decide) rfl hops hr fun b b2 off o2 a w hB h=>?_))
 refine wp_seq (h.step ah h5 rfl .normal [(4,9,1004)] rfl (fun _ v=>⟨[(4,.own (1004,v) 9 0 0 false),(3,.raw (.map (some b))),(2,.raw (.pointer (some ⟨b2,off,none⟩))),(0,.vec 12 false (l.map av))],[((1004,v),some ⟨9,[],false,false⟩)]⟩) (fun w1 F1 hG=>by simp) fun _ v a w h=>?_)
 refine wp_seq (wp_seq (h.step ah h9 rfl .normal [(4,9,1004)] rfl (fun _ v=>tS b b2 off l v 0 []) (fun w1 F1 hG=>by simp[tS]) fun _ v a w h=>?_))
 refine aFS hS.2.2.1 NM.length hnl (by omega) hl h10 hmax h fun n ks a w hks h=>?_
 obtain⟨id2,ops2,rfl,hops2⟩:=anw h11
 refine wp_seq (wp_region_list (aJG (hG0:=hG) hS (z:=M.z4) (NK:=NM.map fun s=>s.data.toList) (by decide) rfl rfl hB (fun s hs=>?_) (by simp; omega) hops2 h fun ns N l' a w hl' hss hmem hr=>?_))
 ·obtain⟨o,ho,h⟩:=(hks s).1 hs
  exact List.mem_map.2 ⟨s,(hm o ho).1 s h,rfl⟩
 have hns:ns=qD l:=by
  refine aoT OH (hss.imp fun {x y} h=>?_) (aff fun o ho=>kG (hf o ho)) fun s=>by rw[hmem,hks,aGl hf]
  rw[uW]
  show Op.bytesLess _ _=true
  rw[ad3]
  simpa using h
 have hnsl:ns.length≤NM.length:=by
  rw[hns]
  refine zn (aff fun o ho=>kG (hf o ho)) fun n hn=>?_
  obtain⟨o,ho,hn⟩:=ads l n hn
  exact (hm o ho).1 n hn
 have hO:pq l=.mk ns (ns.map fun n=>oh (l.map fun o=>(bg o n).1)) (ns.map fun n=>l.all fun o=>(bg o n).2) (oh (l.map Ob.rest)):=by rw[hns]; rfl
 rw[hO]
 have htail:=fun v9=>aHs (w0:=w0) (F0:=F0) (hG:=hG) NM m l hf hm h4 hl ns (by omega) (oh (l.map Ob.rest)) N v9
 clear hO
 generalize oh (l.map Ob.rest)=r at *
 rw[← List.append_nil l']
 obtain⟨K,hK⟩ : ∃ K:St→Prop,K=fun st'=>∃ v9,LS st' ⟨[(9,.ptr (9,v9) 12 0 0),(2,.ptr (2,N) 12 0 0),(0,.vec 12 false (l.map av))],[((9,v9),some ⟨12,[Iq ns (.vec 9 true []) (.vec 1 true []) r],false,true⟩),((2,N),some ⟨12,[M.z4],false,true⟩)]⟩:=⟨_,rfl⟩
 refine vk (E:=⟨prog,w0,F0,94,[],0,hG⟩) (K:=K) ?_ l' _ _ a w hl' hr ?_
 ·intro st' a w hk hr
  rw[hK] at hk
  obtain⟨v9,hls⟩:=hk
  exact wp_mono (jk (E:=⟨prog,w0,F0,94,[],0,hG⟩) ah c12 (.seq (.seq (.reg [M.o 50 (.faddr (.t 9) 0),M.o 51 (.load (.t 50) 1 false),M.o 52 (.len (.t 51)),M.o 53 (.mv (.k (.int .i64 0)))]) (.block 4 (.loop M.aem))) M.ad5) _ a w _ h12 (hls.le a w hr) (htail v9)) fun e a' w' h=>h
 ·show XR _ [M.o 47 (.mv (.t 4)),M.o 48 (.call M.jF [.t 47]),M.o 49 (.build M.z4 [(0,1,.t 46),(3,9,.t 48)]),M.o 9 (.alloc M.z4),M.e (.store (.t 9) (.t 49) 12)] _ [] (fun _=>K)
  have eN:M.z4.length=12:=rfl
  rw[eN]
  simp
  refine aj.ret (by simpa using cT') ?_
  simp[hK,Iq]
  exact fun _ _=>rfl
end Go.Proofs.YtfilonnphgnplaaGreatDoor.Pv
set_option maxRecDepth 100000
namespace Go.Proofs.YtfilonnphgnplaaGreatDoor.Pv
open Go Go.Tidy
theorem aK6 (l:List Ob):kfR (l.map av)=true:=by
 induction l with
 | nil=>rfl
 | cons o l ih=>simp[kfR,ih]
theorem aAX {l:List Arr} {k:Nat} (hk:k<l.length):(l.map dh).set k (cA l[k])=l.map dh:=by
 rw[← ajE,← List.map_set,List.set_getElem_self]
theorem aJb {l:List Ob} {k:Nat} (hk:k<l.length):(l.map av).set k (cO l[k])=l.map av:=by
 rw[← qM,← List.map_set,List.set_getElem_self]
theorem aFb {l:List Ty} {k:Nat} (hk:k<l.length):(l.map eU).set k (cT l[k])=l.map eU:=by
 rw[← adU,← List.map_set,List.set_getElem_self]
theorem aFe {hl:Key→Option HE}:∀ {l:List (List PV)} {k:Nat} {row:List PV} (hk:k<l.length),leL hl row l[k]→leR hl (l.set k row) l
 | [],k,_,hk,_=>by simp at hk
 | x::l,0,row,_,h=>by
   rw[List.set_cons_zero]
   exact⟨h,aK hl l⟩
 | x::l,k+1,row,hk,h=>by
   rw[List.set_cons_succ]
   exact⟨aap hl x,aFe (by simpa using hk) h⟩
def twO (o:Ob) (a b c:PV):List PV:=[a,b,c,.bool o.rest.all,.bool o.rest.null,.bool o.rest.fls,.bool o.rest.tru,.vec 2 false (o.rest.nums.map dH),.bool o.rest.any,.vec 1 false (o.rest.texts.map encStr),.vec 11 false (o.rest.arrays.map dh),.vec 12 false (o.rest.objects.map av)]
def lg (t:Ty) (a o:PV):List PV:=[.bool t.all,.bool t.null,.bool t.fls,.bool t.tru,.vec 2 false (t.nums.map dH),.bool t.any,.vec 1 false (t.texts.map encStr),a,o]
set_option maxHeartbeats 8000000 in
theorem au2 (t:Ty) (h1:t.nums.length≤34359738368) (h2:t.texts.length≤34359738368) (h3:t.arrays.length≤34359738368) (h4:t.objects.length≤34359738368)
 (hA:∀ a∈t.arrays,Ret prog M.jc [.agg (cT a.item)] (.agg (cT a.item)))
 (hO:∀ o∈t.objects,o.names.length≤34359738368∧o.fields.length≤34359738368∧o.must.length≤34359738368∧(∀ f∈o.fields,Ret prog M.jc [.agg (cT f)] (.agg (cT f)))∧Ret prog M.jc [.agg (cT o.rest)] (.agg (cT o.rest))) :
 Ret prog M.jc [.agg (cT t)] (.agg (cT t)):=by
 refine Ret.go ah akZ (by simp) fun hb w0 F0 hG=>?_
 have c1:=aah false (t.nums.map dH) (by simp; omega)
 have c2:=sW false (t.texts.map encStr) (by simp; omega)
 have c3:=abq false (t.arrays.map dh) (by simp; omega)
 have c4:=OO false (t.objects.map av) (by simp; omega)
 simp
 intro v1 v2 v3
 refine aH.ru c1 ?_
 simp
 refine aH.ru c2 ?_
 simp
 intro v4
 refine aH.ru c3 ?_
 simp
 refine aH.ru c4 ?_
 simp
 refine aU.anew [(8000001,11,1007),(9000001,12,1008)] rfl (fun v=>⟨[(26,.int .i64 0),(25,.int .i64 t.arrays.length),(2,.ptr (2,v2) 9 0 0),(1,.ptr (1,v1) 9 0 0)],[((1,v1),some ⟨9,[lg t (.own (1007,v) 11 0 t.arrays.length false) (.own (1008,v) 12 0 t.objects.length false)],false,true⟩),((1007,v),some ⟨11,t.arrays.map dh,false,false⟩),((1008,v),some ⟨12,t.objects.map av,false,false⟩),((2,v2),some ⟨9,[M.z1],false,true⟩)]⟩) (fun v=>by simp[lg,aK]) fun v hv=>?_
 refine aU.cnt ah t.arrays.length (fun k (_:Unit)=>⟨[(26,.int .i64 k),(25,.int .i64 t.arrays.length),(2,.ptr (2,v2) 9 0 0),(1,.ptr (1,v1) 9 0 0)],[((1,v1),some ⟨9,[lg t (.own (1007,v) 11 0 t.arrays.length false) (.own (1008,v) 12 0 t.objects.length false)],false,true⟩),((1007,v),some ⟨11,t.arrays.map dh,false,false⟩),((1008,v),some ⟨12,t.objects.map av,false,false⟩),((2,v2),some ⟨9,[M.z1],false,true⟩)]⟩) (fun _ _=>True) () trivial (by simp[lg,aK]) fun k _ hk _=>?_
 have hw:=wrap64 (n:=(k:Int)+1) (by omega) (by omega)
 by_cases g1:k<t.arrays.length
 ·have cA:=hA _ (List.getElem_mem g1)
  have hs:=aAX g1
  simp[g1,lg]
  intro v5
  refine aH.ret (by simpa using cA) ?_
  simp[g1,hw,hs,aK]
 ·simp[g1,lg]
  refine aU.anew [(9000001,12,1009)] rfl (fun v=>⟨[(45,.int .i64 0),(44,.int .i64 t.objects.length),(2,.ptr (2,v2) 9 0 0),(1,.ptr (1,v1) 9 0 0)],[((1,v1),some ⟨9,[lg t (.vec 11 false (t.arrays.map dh)) (.own (1009,v) 12 0 t.objects.length false)],false,true⟩),((1009,v),some ⟨12,t.objects.map av,false,true⟩),((2,v2),some ⟨9,[M.z1],false,true⟩)]⟩) (fun v=>by simp[lg,aK]) fun u hu=>?_
  refine aU.aNI ah t.objects.length (fun k=>⟨[(45,.int .i64 k),(44,.int .i64 t.objects.length),(2,.ptr (2,v2) 9 0 0),(1,.ptr (1,v1) 9 0 0)],[((1,v1),some ⟨9,[lg t (.vec 11 false (t.arrays.map dh)) (.own (1009,u) 12 0 t.objects.length false)],false,true⟩),((1009,u),some ⟨12,t.objects.map av,false,true⟩),((2,v2),some ⟨9,[M.z1],false,true⟩)]⟩) 2
   ⟨[(2,.ptr (2,v2) 9 0 0),(1,.ptr (1,v1) 9 0 0)],[((1,v1),some ⟨9,[lg t (.vec 11 false (t.arrays.map dh)) (.own (1009,u) 12 0 t.objects.length false)],false,true⟩),((1009,u),some ⟨12,t.objects.map av,false,false⟩),((2,v2),some ⟨9,[M.z1],false,true⟩)]⟩ (fun v=>by simp[lg,aK]) ?_ ?_
  ·intro k hk
   have hw:=wrap64 (n:=(k:Int)+1) (by omega) (by omega)
   by_cases g2:k<t.objects.length
   ·obtain⟨o1,o2,o3,o4,o5⟩:=hO _ (List.getElem_mem g2)
    have hs:=aJb g2
    have d1:=sW false (t.objects[k].names.map encStr) (by simp; omega)
    have d2:=aai false (t.objects[k].must.map jH) (by simp; omega)
    have d3:=aag false (t.objects[k].fields.map eU) (by simp; omega)
    generalize ho:t.objects[k]=o at *
    simp[g2,lg,ho]
    intro v5
    refine aH.ru d1 ?_
    simp[g2,ho]
    refine aH.ru d2 ?_
    simp[g2,ho]
    refine aH.ru d3 ?_
    simp[g2,ho]
    have hnl:(t.objects.map av).length=t.objects.length:=by simp
    refine aU.cnt ah o.fields.length (fun j (_:Unit)=>⟨[(81,.int .i64 j),(80,.int .i64 o.fields.length),(5,.ptr (1009,u) 12 k 0),(45,.int .i64 k),(44,.int .i64 t.objects.length),(2,.ptr (2,v2) 9 0 0),(1,.ptr (1,v1) 9 0 0)],
     [((1009,u),some ⟨12,(t.objects.map av).set k (twO o (.own (59,v5) 1 0 o.names.length false) (.own (69,v5) 9 0 o.fields.length false) (.own (64,v5) 1 0 o.must.length false)),false,true⟩),((69,v5),some ⟨9,o.fields.map eU,false,false⟩),((64,v5),some ⟨1,o.must.map jH,false,false⟩),((59,v5),some ⟨1,o.names.map encStr,false,false⟩),((1,v1),some ⟨9,[lg t (.vec 11 false (t.arrays.map dh)) (.own (1009,u) 12 0 t.objects.length false)],false,true⟩),((2,v2),some ⟨9,[M.z1],false,true⟩)]⟩) (fun _ _=>True) () trivial (by simp[lg,twO,aK]) fun j _ hj _=>?_
    have hwj:=wrap64 (n:=(j:Int)+1) (by omega) (by omega)
    by_cases g3:j<o.fields.length
    ·have cF:=o4 _ (List.getElem_mem g3)
     have hsf:=aFb g3
     simp[g2,g3,lg,twO]
     intro v6
     refine aH.ret (by simpa using cF) ?_
     simp[g2,g3,hwj,hsf,aK]
    ·simp[g2,g3,lg,twO]
     refine aj.ret (by simpa using o5) ?_
     simp[g2,hw]
     refine aFe (by simpa using g2) ?_
     have e:(t.objects.map av)[k]'(by simpa using g2)=cO o:=by simp[ho]
     rw[e]
     simp
   ·simp[g2,lg,aK,aK6]
  ·simp[lg]
theorem Iw (NM:List S) (m:Nat) (h1:NM.length≤8589934592) (h2:m≤8589934592):∀ t:Ty,ak t=true→bdT NM m t→Ret prog M.jc [.agg (cT t)] (.agg (cT t)):=by
 have key:∀ (n:Nat) (t:Ty),ay t≤n→ak t=true→bdT NM m t→Ret prog M.jc [.agg (cT t)] (.agg (cT t)):=by
  intro n
  induction n with
  | zero =>
    intro t hh ht hb
    have h0:=qy.1 hh
    obtain⟨b1,b2,_,_⟩:=mH.1 hb
    have f4:=(cu ht).2.2.2.1
    exact au2 t (by omega) (by omega) (by simp[h0.1]) (by simp[h0.2]) (by simp[h0.1]) (by simp[h0.2])
  | succ n ih =>
    intro t hh ht hb
    have hs:=qx.1 hh
    obtain⟨b1,b2,b3,b4⟩:=mH.1 hb
    obtain⟨f1,f2,f3,f4,f5,f6,f7,f8⟩:=cu ht
    refine au2 t (by omega) (by omega) (by omega) (by omega) (fun a ha=>?_) (fun o ho=>?_)
    ·exact ih a.item (hs.1 a ha) (gY (f7 a ha)).2.2.2.1 (b3 a ha)
    ·obtain⟨o1,o2,o3,o4,o5,o6⟩:=dz (f8 o ho)
     have hb':=b4 o ho
     have hnl:o.names.length≤NM.length:=zn (kG (f8 o ho)) hb'.1
     exact⟨by omega,by omega,by omega,fun f hf=>ih f ((hs.2 o ho).2 f hf) (o5 f hf) (hb'.2.1 f hf),ih o.rest (hs.2 o ho).1 o4 hb'.2.2⟩
 exact fun t=>key (ay t) t (Nat.le_refl _)
end Go.Proofs.YtfilonnphgnplaaGreatDoor.Pv
set_option maxRecDepth 100000
namespace Go.Proofs.YtfilonnphgnplaaGreatDoor.Pv
open Go Go.Tidy
abbrev jf (gs gv:Nat) (l:List Ob):List (Key × Option HE):=[((gs,gv),some ⟨12,l.map av,false,false⟩)]
theorem afq {l:List Ob} {a b:Nat} (ha:a<l.length) (hb:b<l.length):((l.map av).set a (cO l[b])).set b (cO l[a])=(Qz l a b).map av:=by
 rw[← qM,← qM,← List.map_set,← List.map_set]
 unfold Qz
 rw[List.getElem?_eq_getElem ha,List.getElem?_eq_getElem hb]
set_option maxHeartbeats 4000000 in
theorem aEo (gs gv:Nat) (fl:Bool) (l:List Ob) (a b n:Nat) (fid:Nat) (ha:a+n≤l.length) (hb' : b+n≤l.length) (hl:l.length≤34359738368) :
 uF prog M.jR [.own (gs,gv) 12 0 l.length fl,.int .i64 a,.int .i64 b,.int .i64 n,.fn fid [] []] (jf gs gv l) (fun r h=>r=.tup []∧h=jf gs gv (uq l a b n)):=by
 refine uF.of ah Z8 (by simp) fun E hP hV=>?_
 have hgV:=hV (gs,gv) ⟨12,l.map av,false,false⟩ (by simp[hk])
 obtain⟨P,w0,F0,nt,G,V,glob⟩:=E
 obtain rfl:P=prog:=hP
 simp
 refine aU.cnt ah n (fun k (_:Unit)=>⟨[(10,.int .i64 k),(0,.own (gs,gv) 12 0 l.length fl),(1,.int .i64 a),(2,.int .i64 b),(3,.int .i64 n),(4,.fn fid [] [])],jf gs gv (uq l a b k)⟩) (fun _ _=>True) () trivial (by simp[uq,aK]) fun k _ hk _=>?_
 have hw:=wrap64 (n:=(k:Int)+1) (by omega) (by omega)
 have hlen:=aqC l a b k
 by_cases h1:k<n
 ·obtain⟨i,hi⟩ : ∃ i,i=a+k:=⟨_,rfl⟩
  obtain⟨j,hj⟩ : ∃ j,j=b+k:=⟨_,rfl⟩
  have e1:(a:Int)+k=(i:Nat):=by omega
  have e2:(b:Int)+k=(j:Nat):=by omega
  have w1:=wrap64 (n:=(i:Nat)) (by omega) (by omega)
  have w2:=wrap64 (n:=(j:Nat)) (by omega) (by omega)
  have q1:i<(uq l a b k).length:=by omega
  have q2:j<(uq l a b k).length:=by omega
  have q3:i<l.length:=by omega
  have q4:j<l.length:=by omega
  have hs:=afq q1 q2
  have hrow:(((uq l a b k).map av).set i (cO (uq l a b k)[j]))[j]'(by simpa using q2)=cO (uq l a b k)[j]:=by
   rw[List.getElem_set]; split
   ·rfl
   ·simp
  have hst:uq l a b (k+1)=Qz (uq l a b k) i j:=by rw[hi,hj]; rfl
  rw[← hst] at hs
  obtain⟨l2,hl2⟩ : ∃ x,uq l a b (k+1)=x:=⟨_,rfl⟩
  rw[hl2] at hs hst
  generalize uq l a b k=l1 at *
  simp[h1,hw,e1,e2,w1,w2,q1,q2,q3,q4,hrow,hs,hl2,aK]
 ·have:k=n:=by omega
  subst this
  simp[h1]
  intro a1 b1 _
  by_cases hk:a1=gs∧b1=gv<;>simp[hk,aK]
theorem arZ (gs gv:Nat) (fl:Bool) (p x z y q:List Ob) (fid:Nat) {L:List Ob} {n a b k:Nat} (hL:L=p++x++z++y++q) (hn:n=L.length) (ha:a=p.length) (hb:b=p.length+k+z.length) (hx:x.length=k) (hy:y.length=k) (hl:n≤34359738368) :
 uF prog M.jR [.own (gs,gv) 12 0 n fl,.int .i64 a,.int .i64 b,.int .i64 k,.fn fid [] []] (jf gs gv L) (fun r h=>r=.tup []∧h=jf gs gv (p++y++z++x++q)):=by
 have hlen:L.length=p.length+k+z.length+k+q.length:=by rw[hL]; simp[hx,hy]; omega
 have:=aEo gs gv fl L a b k fid (by omega) (by omega) (by omega)
 rw[← hn] at this
 refine this.mono ?_
 rintro r h' ⟨h1,h2⟩
 refine⟨h1,?_⟩
 rw[h2,hL,aBO p x z y q hx hy ha hb]
end Go.Proofs.YtfilonnphgnplaaGreatDoor.Pv
set_option maxRecDepth 100000
namespace Go.Proofs.YtfilonnphgnplaaGreatDoor.Pv
open Go Go.Tidy
structure aaz where
 p:List Ob
 x:List Ob
 y:List Ob
 q:List Ob
def aaz.l (g:aaz):List Ob:=g.p++g.x++g.y++g.q
set_option maxHeartbeats 4000000 in
theorem aJk (gs gv:Nat) (fl:Bool) (p x y q:List Ob) (fid:Nat) {L:List Ob} {n a m b:Nat} (hL:L=p++x++y++q) (hn:n=L.length) (ha:a=p.length) (hm:m=p.length+x.length) (hb:b=p.length+x.length+y.length) (px:0<x.length) (py:0<y.length) (hl:n≤34359738368) :
 uF prog M.yH [.own (gs,gv) 12 0 n fl,.int .i64 a,.int .i64 m,.int .i64 b,.fn fid [] []] (jf gs gv L) (fun r h=>r=.tup []∧h=jf gs gv (p++y++x++q)):=by
 refine uF.of ah acf (by simp) fun E hP hV=>?_
 have hgV:=hV (gs,gv) ⟨12,L.map av,false,false⟩ (by simp[hk])
 obtain⟨P,w0,F0,nt,G,V,glob⟩:=E
 obtain rfl:P=prog:=hP
 obtain⟨R,hR⟩ : ∃ R,R=p++y++x++q:=⟨_,rfl⟩
 have hlen:L.length=p.length+x.length+y.length+q.length:=by rw[hL]; simp; omega
 rw[← hR]
 have w1:=wrap64 (n:=(x.length:Nat)) (by omega) (by omega)
 have w2:=wrap64 (n:=(y.length:Nat)) (by omega) (by omega)
 have e1:(m:Int)-a=(x.length:Nat):=by omega
 have e2:(b:Int)-m=(y.length:Nat):=by omega
 simp[e1,e2,w1,w2]
 obtain⟨J,hJ⟩ : ∃ J:aaz→Prop,J=fun g=>g.l.length=n∧0<g.x.length∧0<g.y.length∧g.p.length+g.x.length=m∧g.p++g.y++g.x++g.q=R:=⟨_,rfl⟩
 refine aU.go ah (fun (g:aaz)=>⟨[(10,.int .i64 g.x.length),(11,.int .i64 g.y.length),(0,.own (gs,gv) 12 0 n fl),(1,.int .i64 a),(2,.int .i64 m),(3,.int .i64 b),(4,.fn fid [] [])],jf gs gv g.l⟩) J (fun g=>g.x.length+g.y.length) ⟨p,x,y,q⟩ (by rw[hJ]; exact⟨by rw[hn,hL]; rfl,px,py,hm.symm,hR.symm⟩) (by simp[aaz.l,hL,aK]) fun g hj=>?_
 have hj' : g.l.length=n∧0<g.x.length∧0<g.y.length∧g.p.length+g.x.length=m∧g.p++g.y++g.x++g.q=R:=by rw[hJ] at hj; exact hj
 clear hj
 obtain⟨j1,j2,j3,j4,j5⟩:=hj'
 have jl:g.p.length+g.x.length+g.y.length+g.q.length=n:=by rw[← j1]; simp[aaz.l]; omega
 have e3:(m:Int)-g.x.length=(g.p.length:Nat):=by omega
 have w3:=wrap64 (n:=(g.p.length:Nat)) (by omega) (by omega)
 by_cases h1:g.x.length=g.y.length
 ·have h1' : (g.x.length:Int)=g.y.length:=by omega
  have c1:=arZ gs gv fl g.p g.x [] g.y g.q fid (L:=g.l) (n:=n) (a:=g.p.length) (b:=m) (k:=g.x.length) (by simp[aaz.l]) j1.symm rfl (by simp; omega) rfl h1.symm (by omega)
  simp[h1',e3,w3]
  rw[← h1',e3,w3]
  refine aj.Vo c1 ?_
  rintro r h' ⟨rfl,rfl⟩
  simp only[List.append_nil]
  rw[j5]
  simp
  intro a1 b1 _
  by_cases hk:a1=gs∧b1=gv<;>simp[hk,aK]
 ·have h1' : ¬ (g.x.length:Int)=g.y.length:=by omega
  by_cases h2:g.y.length<g.x.length
  ·have h2' : (g.y.length:Int)<g.x.length:=by omega
   have w4:=wrap64 (n:=((g.x.length-g.y.length:Nat):Int)) (by omega) (by omega)
   have e4:(g.x.length:Int)-g.y.length=((g.x.length-g.y.length:Nat):Int):=by omega
   obtain⟨x1,x2,hx,hx1⟩ : ∃ x1 x2,g.x=x1++x2∧x1.length=g.y.length:=⟨g.x.take g.y.length,g.x.drop g.y.length,(List.take_append_drop _ _).symm,by simp; omega⟩
   have hx2:x2.length=g.x.length-g.y.length:=by rw[hx]; simp; omega
   have c1:=arZ gs gv fl g.p x1 x2 g.y g.q fid (L:=g.l) (n:=n) (a:=g.p.length) (b:=m) (k:=g.y.length) (by simp[aaz.l,hx]) j1.symm rfl (by omega) hx1 rfl (by omega)
   rw[← hx2] at w4 e4
   simp[h1']
   refine bQ.go ah ?_
   simp[h2',e3,w3]
   refine aj.Vo c1 ?_
   rintro r h' ⟨rfl,rfl⟩
   simp[e4,w4]
   exact⟨⟨g.p++g.y,x2,x1,g.q⟩,by rw[hJ]; exact⟨by rw[← j1]; simp[aaz.l,hx]; omega,by simp only; omega,by simp only; omega,by simp; omega,by rw[← j5,hx]; simp⟩,by simp only; omega,by simp[aaz.l,aK,hx1]⟩
  ·have h2' : ¬ (g.y.length:Int)<g.x.length:=by omega
   have w4:=wrap64 (n:=((g.y.length-g.x.length:Nat):Int)) (by omega) (by omega)
   have e4:(g.y.length:Int)-g.x.length=((g.y.length-g.x.length:Nat):Int):=by omega
   obtain⟨y1,y2,hy,hy2⟩ : ∃ y1 y2,g.y=y1++y2∧y2.length=g.x.length:=⟨g.y.take (g.y.length-g.x.length),g.y.drop (g.y.length-g.x.length),(List.take_append_drop _ _).symm,by simp; omega⟩
   have hy1:y1.length=g.y.length-g.x.length:=by rw[hy]; simp; omega
   have c1:=arZ gs gv fl g.p g.x y1 y2 g.q fid (L:=g.l) (n:=n) (a:=g.p.length) (b:=m+g.y.length-g.x.length) (k:=g.x.length) (by simp[aaz.l,hy]) j1.symm rfl (by omega) rfl hy2 (by omega)
   obtain⟨b',hb'⟩ : ∃ b',b'=m+g.y.length-g.x.length:=⟨_,rfl⟩
   rw[← hb'] at c1
   have e5:(m:Int)+g.y.length=((m+g.y.length:Nat):Int):=by omega
   obtain⟨s,hs⟩ : ∃ s,s=m+g.y.length:=⟨_,rfl⟩
   have e5:(m:Int)+g.y.length=(s:Nat):=by omega
   have e6:(s:Int)-g.x.length=(b' : Nat):=by omega
   have w5:=wrap64 (n:=(s:Nat)) (by omega) (by omega)
   have w6:=wrap64 (n:=(b' : Nat)) (by omega) (by omega)
   rw[← hy1] at w4 e4
   simp[h1']
   refine bQ.go ah ?_
   simp[h2',e3,w3,e5,w5,e6,w6]
   refine aj.Vo c1 ?_
   rintro r h' ⟨rfl,rfl⟩
   simp[e4,w4]
   exact⟨⟨g.p,y2,y1,g.x++g.q⟩,by rw[hJ]; exact⟨by rw[← j1]; simp[aaz.l,hy]; omega,by simp only; omega,by simp only; omega,by simp only; omega,by rw[← j5,hy]; simp⟩,by simp only; omega,by simp[aaz.l,aK,hy2]⟩
end Go.Proofs.YtfilonnphgnplaaGreatDoor.Pv
set_option maxRecDepth 100000
namespace Go.Proofs.YtfilonnphgnplaaGreatDoor.Pv
open Go Go.Tidy
def Yj:Ordering→Int
 | .lt=>-1
 | .eq=>0
 | .gt=>1
def aft (fid:Nat) (f:Ob→Ob→Ordering) (D:Ob→Prop):Prop:=∀ a b,D a→D b→Ret prog fid [.agg (cO a),.agg (cO b)] (.int .i64 (Yj (f a b)))
structure acF where
 p:List Ob
 z1:List Ob
 v:Ob
 z2:List Ob
 q:List Ob
def acF.l (g:acF):List Ob:=g.p++g.z1++g.v::(g.z2++g.q)
structure ab7 where
 p:List Ob
 z:List Ob
 y:List Ob
 q:List Ob
def ab7.l (g:ab7):List Ob:=g.p++g.z++g.y++g.q
theorem Oh {n:Int} (h1:0≤n) (h2:n≤18446744073709551615):IntKind.u64.wrap n=n:=by
 simp[IntKind.wrap,IntKind.bits,IntKind.signed]
 omega
theorem aAm {α:Type} {p x q L:List α} (hL:L=p++x++q) {k j:Nat} (hk:k<x.length) (hj:j=p.length+k) (h:j<L.length):L[j]=x[k]:=by
 subst hL; subst hj
 rw[List.getElem_append_left (by simp; omega),List.getElem_append_right (by omega)]
 simp
set_option maxHeartbeats 4000000 in
theorem am1 (gs gv:Nat) (fl:Bool) (p x q:List Ob) (fid:Nat) {f:Ob→Ob→Ordering} {D:Ob→Prop} (hf:Tot f) (hc:aft fid f D) {L:List Ob} {n a b:Nat} (hL:L=p++x++q) (hn:n=L.length) (ha:a=p.length) (hb:b=p.length+x.length) (hD:∀ o∈L,D o) (hl:n≤34359738368) :
 uF prog M.nu [.own (gs,gv) 12 0 n fl,.int .i64 a,.int .i64 b,.fn fid [] []] (jf gs gv L) (fun r h=>r=.tup []∧∃ z,h=jf gs gv (p++z++q)∧z.Perm x∧Srt f z):=by
 refine uF.of ah Ug (by simp) fun E hP hV=>?_
 have hgV:=hV (gs,gv) ⟨12,L.map av,false,false⟩ (by simp[hk])
 obtain⟨P,w0,F0,nt,G,V,glob⟩:=E
 obtain rfl:P=prog:=hP
 have hlen:L.length=p.length+x.length+q.length:=by rw[hL]; simp; omega
 obtain⟨a1,ha1⟩ : ∃ a1,a1=a+1:=⟨_,rfl⟩
 have e1:(a:Int)+1=(a1:Nat):=by omega
 have w1:=wrap64 (n:=(a1:Nat)) (by omega) (by omega)
 simp[e1,w1]
 obtain⟨J,hJ⟩ : ∃ J:Nat × ab7→Prop,J=fun g=>g.2.p=p∧g.2.q=q∧g.2.l.length=n∧(g.2.z++g.2.y).Perm x∧Srt f g.2.z∧(∀ o∈g.2.l,D o)∧(g.2.y≠[]→g.1=a+g.2.z.length)∧(g.2.y=[]→b≤g.1)∧a<g.1∧g.1≤n+1:=⟨_,rfl⟩
 obtain⟨z0,y0,hx0,hz1,hz0⟩ : ∃ z0 y0,x=z0++y0∧z0.length≤1∧(x≠[]→z0.length=1):=by
  cases x with
  | nil=>exact⟨[],[],rfl,by simp,by simp⟩
  | cons u x=>exact⟨[u],x,rfl,by simp,by simp⟩
 have hst0:(⟨p,z0,y0,q⟩ : ab7).l=L:=by rw[hL,hx0]; simp[ab7.l]
 have hxl0:x.length=z0.length+y0.length:=by rw[hx0]; simp
 have hstart:J (a1,⟨p,z0,y0,q⟩):=by
  rw[hJ]
  refine⟨rfl,rfl,by simp[hst0,hn],by rw[hx0],?_,by simp only[hst0]; exact hD,fun h=>?_,fun h=>?_,by simp only; omega,by simp only; omega⟩
  ·match z0,hz1 with
   | [],_=>exact aLn
   | [u],_=>exact aLJ u
  ·have:x≠[]:=by rw[hx0]; simp only at h; simp[h]
   have:=hz0 this
   simp only; omega
  ·simp only at h
   rw[h] at hxl0
   simp at hxl0
   simp only; omega
 refine aU.go ah (fun (g:Nat × ab7)=>⟨[(8,.int .i64 g.1),(0,.own (gs,gv) 12 0 n fl),(1,.int .i64 a),(2,.int .i64 b),(3,.fn fid [] [])],jf gs gv g.2.l⟩) J (fun g=>g.2.y.length) (a1,⟨p,z0,y0,q⟩) hstart (by simp[hst0,aK]) fun g hj=>?_
 obtain⟨i,g⟩:=g
 have hj' : g.p=p∧g.q=q∧g.l.length=n∧(g.z++g.y).Perm x∧Srt f g.z∧(∀ o∈g.l,D o)∧(g.y≠[]→i=a+g.z.length)∧(g.y=[]→b≤i)∧a<i∧i≤n+1:=by rw[hJ] at hj; exact hj
 clear hj
 obtain⟨j1,j2,j3,j4,j5,j6,j7,j8,j9,j10⟩:=hj'
 have hxl:g.z.length+g.y.length=x.length:=by rw[← j4.length_eq]; simp
 have hw:=wrap64 (n:=(i:Int)+1) (by omega) (by omega)
 by_cases h1:i<b
 ·have hy0:g.y≠[]:=fun h=>by have:=j8 h; omega
  have hi:=j7 hy0
  obtain⟨v,y',hy⟩:=List.exists_cons_of_ne_nil hy0
  simp[h1]
  obtain⟨J2,hJ2⟩ : ∃ J2:acF→Prop,J2=fun k=>k.p=p∧k.v=v∧k.q=y'++q∧k.z1++k.z2=g.z∧∀ u∈k.z2,f v u≠.gt:=⟨_,rfl⟩
  have hst2:(⟨p,g.z,v,[],y'++q⟩ : acF).l=g.l:=by simp[acF.l,ab7.l,j1,j2,hy]
  refine aU.go ah (fun (k:acF)=>⟨[(9,.int .i64 (a+k.z1.length:Nat)),(8,.int .i64 i),(0,.own (gs,gv) 12 0 n fl),(1,.int .i64 a),(2,.int .i64 b),(3,.fn fid [] [])],jf gs gv k.l⟩) J2 (fun k=>k.z1.length) ⟨p,g.z,v,[],y'++q⟩ (by rw[hJ2]; exact⟨rfl,rfl,rfl,by simp,by simp⟩) (by simp only[hst2]; simp[hi,aK]) fun k hj=>?_
  have hj' : k.p=p∧k.v=v∧k.q=y'++q∧k.z1++k.z2=g.z∧∀ u∈k.z2,f v u≠.gt:=by rw[hJ2] at hj; exact hj
  clear hj
  obtain⟨k1,k2,k3,k4,k5⟩:=hj'
  have hperm:k.l.Perm g.l:=by
   unfold acF.l ab7.l
   rw[k1,k2,k3,j1,j2,hy,← k4]
   simp only[List.append_assoc]
   refine List.Perm.append_left p ?_
   refine List.Perm.append_left _ ?_
   simp only[List.cons_append]
   exact (List.perm_middle (a:=v) (l₁:=k.z2) (l₂:=y'++q)).symm
  have hkl:k.l.length=n:=by rw[hperm.length_eq]; exact j3
  have hkD:∀ o∈k.l,D o:=fun o ho=>j6 o (hperm.mem_iff.1 ho)
  have hzl:k.z1.length+k.z2.length=g.z.length:=by rw[← k4]; simp
  have hout:∀ hgo:Srt f (k.z1++v::k.z2),∃ gg:Nat × ab7,J gg∧gg.2.y.length<g.y.length∧gg.1=i+1∧gg.2.l=k.l:=fun hgo=>by
   have hll:(⟨p,k.z1++v::k.z2,y',q⟩ : ab7).l=k.l:=by simp[acF.l,ab7.l,k1,k2,k3]
   refine⟨(i+1,⟨p,k.z1++v::k.z2,y',q⟩),?_,by simp[hy],rfl,hll⟩
   rw[hJ]
   refine⟨rfl,rfl,by simp only[hll]; exact hkl,?_,hgo,by simp only[hll]; exact hkD,fun _=>by simp; omega,fun h=>?_,by simp only; omega,by simp only; omega⟩
   ·refine List.Perm.trans ?_ j4
    rw[hy,← k4]
    simp only[List.append_assoc,List.cons_append]
    exact List.Perm.append_left _ (List.perm_middle (a:=v) (l₁:=k.z2) (l₂:=y')).symm
   ·simp only at h
    rw[h] at hy
    rw[hy] at hxl
    simp at hxl
    simp only; omega
  rcases List.eq_nil_or_concat k.z1 with hz|⟨z1',u,hz⟩
  ·obtain⟨gg,g1,g2,g3,g4⟩:=hout (by
      rw[hz]
      refine aa6.2 ⟨k5,?_⟩
      rw[← k4,hz] at j5
      simpa using j5)
   simp[hz]
   exact fun _ _=>⟨gg.1,gg.2,g1,g2,by rw[hw,g3]; rfl,by rw[g4]; exact aK _ _⟩
  ·obtain⟨d,hd⟩ : ∃ d,d=a+k.z1.length:=⟨_,rfl⟩
   obtain⟨d1,hd1⟩ : ∃ d1,d1=a+z1'.length:=⟨_,rfl⟩
   have hzl' : k.z1.length=z1'.length+1:=by rw[hz]; simp
   rw[← hd]
   have ed:(d:Int)-1=(d1:Nat):=by omega
   have w2:=wrap64 (n:=(d1:Nat)) (by omega) (by omega)
   have q1:d<k.l.length:=by omega
   have q2:d1<k.l.length:=by omega
   have q3:d<n:=by omega
   have q4:d1<n:=by omega
   have q5:a<d:=by omega
   have hkl1:k.l=p++z1'++u::(v::(k.z2++k.q)):=by simp[acF.l,k1,k2,hz]
   have hv:k.l[d]=v:=aAm (p:=p++z1'++[u]) (x:=[v]) (q:=k.z2++k.q) (by rw[hkl1]; simp) (k:=0) (by simp) (by simp; omega) q1
   have hu:k.l[d1]=u:=aAm (p:=p++z1') (x:=[u]) (q:=v::(k.z2++k.q)) (by rw[hkl1]; simp) (k:=0) (by simp) (by simp; omega) q2
   have hcc:=hc v u (hkD v (by rw[← hv]; exact List.getElem_mem _)) (hkD u (by rw[← hu]; exact List.getElem_mem _))
   simp[q1,q2,q3,q4,q5,ed,w2,hv,hu]
   intro v' _
   refine aH.ret hcc ?_
   by_cases hlt:f v u=.lt
   ·have hs:=afq q1 q2
    have hsw:Qz k.l d d1=(⟨p,z1',v,u::k.z2,k.q⟩ : acF).l:=by
     rw[hkl1]
     have:=avC (p++z1') [] (k.z2++k.q) u v (a:=d1) (b:=d) (by simp; omega) (by simp; omega)
     simpa[acF.l] using this
    rw[hsw,hv,hu] at hs
    have hrow:((k.l.map av).set d (cO u))[d1]'(by simpa using q2)=cO u:=by
     rw[List.getElem_set,if_neg (by omega)]
     simp[hu]
    obtain⟨l2,hl2⟩ : ∃ l2,(⟨p,z1',v,u::k.z2,k.q⟩ : acF).l=l2:=⟨_,rfl⟩
    rw[hl2] at hs
    simp[hlt,Yj,q1,q2,q3,q4,q5,ed,w2,hv,hu,hrow,hs]
    refine fun _ _=>⟨⟨p,z1',v,u::k.z2,k.q⟩,?_,by simp only; omega,by simp[hl2,hd1,aK]⟩
    rw[hJ2]
    refine⟨rfl,rfl,k3,by rw[← k4,hz]; simp,fun y hy=>?_⟩
    rcases List.mem_cons.1 hy with rfl|hy
    ·exact hf.ay9 hlt
    ·exact k5 y hy
   ·have hge:¬ Yj (f v u)<0:=by cases e:f v u<;>simp_all [Yj]
    obtain⟨gg,g1,g2,g3,g4⟩:=hout (asc hf (by rw[k4]; exact j5) (fun y hy=>by
     rw[hz,List.concat_eq_append,List.getLast?_concat] at hy
     simp only[Option.mem_def,Option.some.injEq] at hy
     subst hy
     exact hf.nlt hlt) k5)
    simp[hge]
    exact⟨gg.1,gg.2,g1,g2,by rw[hw,g3]; rfl,by rw[g4]; exact aK _ _⟩
 ·have hy0:g.y=[]:=by
     rcases List.eq_nil_or_concat g.y with h|⟨_,_,h⟩
     ·exact h
     ·have:=j7 (by rw[h]; simp)
      have:0<g.y.length:=by rw[h]; simp
      omega
  simp[h1]
  have hfin:g.l=p++g.z++q:=by simp[ab7.l,j1,j2,hy0]
  refine⟨jf gs gv g.l,⟨g.z,by rw[hfin]; simp,by simpa[hy0] using j4,j5⟩,by simp,?_⟩
  intro a1 b1 _
  by_cases hk:a1=gs∧b1=gv<;>simp[hk,aK]
end Go.Proofs.YtfilonnphgnplaaGreatDoor.Pv
set_option maxRecDepth 100000
namespace Go.Proofs.YtfilonnphgnplaaGreatDoor.Pv
open Go Go.Tidy
theorem aa4 {α:Type} {p x q L:List α} (hL:L=p++x++q) {k j:Nat} (hk:k<x.length) (hj:j=p.length+k) (h:j<L.length):L[j]=x[k]:=by
 subst hL; subst hj
 rw[List.getElem_append_left (by simp; omega),List.getElem_append_right (by omega)]
 simp
theorem fd2 (s:Nat):((s:Nat):Int).fdiv 2=((s / 2:Nat):Int):=by
 rw[Int.fdiv_eq_ediv_of_nonneg _ (by omega)]; omega
theorem p2u:(2:Int) ^ min 1 IntKind.u64.bits=2:=by decide
set_option maxHeartbeats 4000000 in
theorem aF0 (gs gv:Nat) (fl:Bool) (p:List Ob) (u:Ob) (y q:List Ob) (fid:Nat) {f:Ob→Ob→Ordering} {D:Ob→Prop} (hf:Tot f) (hc:aft fid f D) {L:List Ob} {n a m b:Nat} (hL:L=p++u::(y++q)) (hn:n=L.length) (ha:a=p.length) (hm:m=a+1) (hb:b=m+y.length) (py:0<y.length) (hy:Srt f y) (hD:∀ o∈L,D o) (hl:n≤34359738368) :
 uF prog M.iy [.own (gs,gv) 12 0 n fl,.int .i64 a,.int .i64 m,.int .i64 b,.fn fid [] []] (jf gs gv L) (fun r h=>r=.tup []∧∃ z,h=jf gs gv (p++z++q)∧z.Perm (u::y)∧Srt f z):=by
 refine uF.of ah wu (by simp) fun E hP hV=>?_
 have hgV:=hV (gs,gv) ⟨12,L.map av,false,false⟩ (by simp[hk])
 obtain⟨P,w0,F0,nt,G,V,glob⟩:=E
 obtain rfl:P=prog:=hP
 have hlen:n=a+1+y.length+q.length:=by rw[hn,hL]; simp; omega
 have e1:(m:Int)-a=1:=by omega
 have w1:=wrap64 (n:=1) (by omega) (by omega)
 have hu:∀ h:a<L.length,L[a]=u:=fun h=>aa4 (p:=p) (x:=[u]) (q:=y++q) (by rw[hL]; simp) (k:=0) (by simp) (by omega) h
 have hyk:∀ k j (hk:k<y.length) (hj:j<L.length),j=m+k→L[j]=y[k]:=fun k j hk hj e=>aa4 (p:=p++[u]) (x:=y) (q:=q) (by rw[hL]; simp) hk (by simp; omega) hj
 have haL:a<L.length:=by omega
 have hua:=hu haL
 simp[e1,w1]
 obtain⟨J,hJ⟩ : ∃ J:Nat × Nat→Prop,J=fun g=>m≤g.1∧g.1≤g.2∧g.2≤b∧(∀ k (hk:k<y.length),m+k+1=g.1→f y[k] u=.lt)∧(∀ k (hk:k<y.length),m+k=g.2→f y[k] u≠.lt):=⟨_,rfl⟩
 refine aU.go ah (fun (g:Nat × Nat)=>⟨[(10,.int .i64 g.1),(11,.int .i64 g.2),(0,.own (gs,gv) 12 0 n fl),(1,.int .i64 a),(2,.int .i64 m),(3,.int .i64 b),(4,.fn fid [] [])],jf gs gv L⟩) J (fun g=>g.2-g.1) (m,b) (by rw[hJ]; exact⟨Nat.le_refl _,by simp only; omega,Nat.le_refl _,fun k _ h=>by simp only at h; omega,fun k _ h=>by simp only at h; omega⟩) (by simp[aK]) fun g hj=>?_
 obtain⟨i,j⟩:=g
 have hj' : m≤i∧i≤j∧j≤b∧(∀ k (hk:k<y.length),m+k+1=i→f y[k] u=.lt)∧(∀ k (hk:k<y.length),m+k=j→f y[k] u≠.lt):=by rw[hJ] at hj; exact hj
 clear hj
 obtain⟨j1,j2,j3,j4,j5⟩:=hj'
 by_cases h1:i<j
 ·obtain⟨s,hs⟩ : ∃ s,s=i+j:=⟨_,rfl⟩
  have es:(i:Int)+j=(s:Nat):=by omega
  have w2:=wrap64 (n:=(s:Nat)) (by omega) (by omega)
  have w3:=Oh (n:=(s:Nat)) (by omega) (by omega)
  obtain⟨h,hh⟩ : ∃ h,h=s / 2:=⟨_,rfl⟩
  have ef:=fd2 s
  rw[← hh] at ef
  have w4:=Oh (n:=(h:Nat)) (by omega) (by omega)
  have w5:=wrap64 (n:=(h:Nat)) (by omega) (by omega)
  have w6:=wrap64 (n:=(h:Int)+1) (by omega) (by omega)
  have hhL:h<L.length:=by omega
  obtain⟨k,hk⟩ : ∃ k,h=m+k:=⟨h-m,by omega⟩
  have hky:k<y.length:=by omega
  have hv:=hyk k h hky hhL hk
  have han:a<n:=by omega
  have hhn:h<n:=by omega
  simp[h1,es,w2,w3,p2u,ef,w4,w5]
  refine bQ.go ah ?_
  simp[hhL,haL,han,hhn,hv,hua]
  intro v _
  refine aH.ret (hc _ _ (hD _ (by rw[← hv]; exact List.getElem_mem _)) (hD _ (by rw[← hua]; exact List.getElem_mem _))) ?_
  by_cases hlt:f y[k] u=.lt
  ·simp[hlt,Yj,w6]
   refine⟨h+1,j,?_,by omega,by simp⟩
   rw[hJ]
   refine⟨by simp only; omega,by simp only; omega,j3,fun k' hk' e=>?_,j5⟩
   have:k'=k:=by simp only at e; omega
   subst this; exact hlt
  ·have hge:¬ Yj (f y[k] u)<0:=by cases e:f y[k] u<;>simp_all [Yj]
   simp[hge]
   refine⟨i,h,?_,by omega,by simp⟩
   rw[hJ]
   refine⟨j1,by simp only; omega,by simp only; omega,j4,fun k' hk' e=>?_⟩
   have:k'=k:=by simp only at e; omega
   subst this; exact hlt
 ·obtain rfl:i=j:=by omega
  simp[h1]
  clear hJ J
  obtain⟨t,ht⟩ : ∃ t,i=m+t:=⟨i-m,by omega⟩
  have hty:t≤y.length:=by omega
  obtain⟨W,hW⟩ : ∃ W:Nat→List Ob,∀ k,W k=p++y.take k++u::(y.drop k++q):=⟨fun k=>p++y.take k++u::(y.drop k++q),fun _=>rfl⟩
  have hW0:W 0=L:=by rw[hW,hL]; simp
  obtain⟨c,hcc⟩ : ∃ c,c=a+t:=⟨_,rfl⟩
  have e2:(i:Int)-1=(c:Nat):=by omega
  have w2:=wrap64 (n:=(c:Nat)) (by omega) (by omega)
  refine aU.cnt ah t (fun k (_:Unit)=>⟨[(13,.int .i64 (a+k:Nat)),(10,.int .i64 i),(0,.own (gs,gv) 12 0 n fl),(1,.int .i64 a),(2,.int .i64 m),(3,.int .i64 b),(4,.fn fid [] [])],jf gs gv (W k)⟩) (fun _ _=>True) () trivial (by simp[hW0,aK]) fun k _ hk _=>?_
  obtain⟨d,hd⟩ : ∃ d,d=a+k:=⟨_,rfl⟩
  rw[← hd]
  by_cases h2:k<t
  ·have h2' : (d:Int)<c:=by omega
   have hky:k<y.length:=by omega
   have hWl:(W k).length=n:=by rw[hW,hlen]; simp; omega
   obtain⟨d1,hd1⟩ : ∃ d1,d1=d+1:=⟨_,rfl⟩
   have e3:(d:Int)+1=(d1:Nat):=by omega
   have w3:=wrap64 (n:=(d1:Nat)) (by omega) (by omega)
   have q1:d<(W k).length:=by omega
   have q2:d1<(W k).length:=by omega
   have q3:d<n:=by omega
   have q4:d1<n:=by omega
   have hs:=afq q1 q2
   have hsw:Qz (W k) d d1=W (k+1):=by
    rw[hW,hW,List.take_succ_eq_append_getElem hky,uZ hky]
    have:=az5 (p++y.take k) [] (y.drop (k+1)++q) u y[k] (a:=d) (b:=d1) (by simp; omega) (by simp; omega)
    simp only[List.append_assoc,List.cons_append,List.nil_append,List.singleton_append] at this ⊢
    exact this
   rw[hsw] at hs
   have hrow:(((W k).map av).set d (cO (W k)[d1]))[d1]'(by simpa using q2)=cO (W k)[d1]:=by
    rw[List.getElem_set]; split
    ·rfl
    ·simp
   have hdk:a+(k+1)=d1:=by omega
   obtain⟨l2,hl2⟩ : ∃ l2,W (k+1)=l2:=⟨_,rfl⟩
   rw[hl2] at hs
   generalize W k=l1 at *
   simp[h2,h2',e2,w2,e3,w3,q1,q2,q3,q4,hrow,hs]
   exact fun _ _=>⟨by omega,by rw[hl2]; exact aK _ _⟩
  ·have h2' : ¬ (d:Int)<c:=by omega
   obtain rfl:k=t:=by omega
   simp[h2',e2,w2]
   refine⟨jf gs gv (W k),⟨y.take k++u::y.drop k,by rw[hW]; simp,?_,aHB hf hy hty (fun k' hk' e=>j4 k' hk' (by omega)) (fun hk'=>j5 k hk' (by omega))⟩,?_,?_⟩
   ·exact (List.perm_middle (a:=u) (l₁:=y.take k) (l₂:=y.drop k)).trans (by rw[List.take_append_drop])
   ·simp
   ·intro a1 b1 _
    by_cases hk:a1=gs∧b1=gv<;>simp[hk,aK]
set_option maxHeartbeats 4000000 in
theorem aFD (gs gv:Nat) (fl:Bool) (p x:List Ob) (v:Ob) (q:List Ob) (fid:Nat) {f:Ob→Ob→Ordering} {D:Ob→Prop} (hf:Tot f) (hc:aft fid f D) {L:List Ob} {n a m b:Nat} (hL:L=p++x++v::q) (hn:n=L.length) (ha:a=p.length) (hm:m=a+x.length) (hb:b=m+1) (px:1<x.length) (hx:Srt f x) (hD:∀ o∈L,D o) (hl:n≤34359738368) :
 uF prog M.iy [.own (gs,gv) 12 0 n fl,.int .i64 a,.int .i64 m,.int .i64 b,.fn fid [] []] (jf gs gv L) (fun r h=>r=.tup []∧∃ z,h=jf gs gv (p++z++q)∧z.Perm (x++[v])∧Srt f z):=by
 refine uF.of ah wu (by simp) fun E hP hV=>?_
 have hgV:=hV (gs,gv) ⟨12,L.map av,false,false⟩ (by simp[hk])
 obtain⟨P,w0,F0,nt,G,V,glob⟩:=E
 obtain rfl:P=prog:=hP
 have hlen:n=a+x.length+1+q.length:=by rw[hn,hL]; simp; omega
 have e0:(m:Int)-a=(x.length:Nat):=by omega
 have w0':=wrap64 (n:=(x.length:Nat)) (by omega) (by omega)
 have n0:¬ (x.length:Int)=1:=by omega
 have e1:(b:Int)-m=1:=by omega
 have w1:=wrap64 (n:=1) (by omega) (by omega)
 have hvm:∀ h:m<L.length,L[m]=v:=fun h=>aa4 (p:=p++x) (x:=[v]) (q:=q) (by rw[hL]; simp) (k:=0) (by simp) (by simp; omega) h
 have hxk:∀ k j (hk:k<x.length) (hj:j<L.length),j=a+k→L[j]=x[k]:=fun k j hk hj e=>aa4 (p:=p) (x:=x) (q:=v::q) (by rw[hL]) hk (by omega) hj
 have hmL:m<L.length:=by omega
 have hva:=hvm hmL
 simp[e0,w0',n0,e1,w1]
 obtain⟨J,hJ⟩ : ∃ J:Nat × Nat→Prop,J=fun g=>a≤g.1∧g.1≤g.2∧g.2≤m∧(∀ k (hk:k<x.length),a+k+1=g.1→f v x[k]≠.lt)∧(∀ k (hk:k<x.length),a+k=g.2→f v x[k]=.lt):=⟨_,rfl⟩
 refine aU.go ah (fun (g:Nat × Nat)=>⟨[(14,.int .i64 g.1),(15,.int .i64 g.2),(0,.own (gs,gv) 12 0 n fl),(1,.int .i64 a),(2,.int .i64 m),(3,.int .i64 b),(4,.fn fid [] [])],jf gs gv L⟩) J (fun g=>g.2-g.1) (a,m) (by rw[hJ]; exact⟨Nat.le_refl _,by simp only; omega,Nat.le_refl _,fun k _ h=>by simp only at h; omega,fun k _ h=>by simp only at h; omega⟩) (by simp[aK]) fun g hj=>?_
 obtain⟨i,j⟩:=g
 have hj' : a≤i∧i≤j∧j≤m∧(∀ k (hk:k<x.length),a+k+1=i→f v x[k]≠.lt)∧(∀ k (hk:k<x.length),a+k=j→f v x[k]=.lt):=by rw[hJ] at hj; exact hj
 clear hj
 obtain⟨j1,j2,j3,j4,j5⟩:=hj'
 by_cases h1:i<j
 ·obtain⟨s,hs⟩ : ∃ s,s=i+j:=⟨_,rfl⟩
  have es:(i:Int)+j=(s:Nat):=by omega
  have w2:=wrap64 (n:=(s:Nat)) (by omega) (by omega)
  have w3:=Oh (n:=(s:Nat)) (by omega) (by omega)
  obtain⟨h,hh⟩ : ∃ h,h=s / 2:=⟨_,rfl⟩
  have ef:=fd2 s
  rw[← hh] at ef
  have w4:=Oh (n:=(h:Nat)) (by omega) (by omega)
  have w5:=wrap64 (n:=(h:Nat)) (by omega) (by omega)
  have w6:=wrap64 (n:=(h:Int)+1) (by omega) (by omega)
  have hhL:h<L.length:=by omega
  obtain⟨k,hk⟩ : ∃ k,h=a+k:=⟨h-a,by omega⟩
  have hkx:k<x.length:=by omega
  have hv:=hxk k h hkx hhL hk
  have hmn:m<n:=by omega
  have hhn:h<n:=by omega
  simp[h1,es,w2,w3,p2u,ef,w4,w5]
  refine bQ.go ah ?_
  simp[hhL,hmL,hmn,hhn,hv,hva]
  intro v' _
  refine aH.ret (hc _ _ (hD _ (by rw[← hva]; exact List.getElem_mem _)) (hD _ (by rw[← hv]; exact List.getElem_mem _))) ?_
  by_cases hlt:f v x[k]=.lt
  ·simp[hlt,Yj]
   refine⟨i,h,?_,by omega,by simp⟩
   rw[hJ]
   refine⟨j1,by simp only; omega,by simp only; omega,j4,fun k' hk' e=>?_⟩
   have:k'=k:=by simp only at e; omega
   subst this; exact hlt
  ·have hge:¬ Yj (f v x[k])<0:=by cases e:f v x[k]<;>simp_all [Yj]
   simp[hge,w6]
   refine⟨h+1,j,?_,by omega,by simp⟩
   rw[hJ]
   refine⟨by simp only; omega,by simp only; omega,j3,fun k' hk' e=>?_,j5⟩
   have:k'=k:=by simp only at e; omega
   subst this; exact hlt
 ·obtain rfl:i=j:=by omega
  simp[h1]
  clear hJ J
  obtain⟨t,ht⟩ : ∃ t,i=a+t:=⟨i-a,by omega⟩
  have htx:t≤x.length:=by omega
  obtain⟨W,hW⟩ : ∃ W:Nat→List Ob,∀ k,W k=p++x.take k++v::(x.drop k++q):=⟨fun k=>p++x.take k++v::(x.drop k++q),fun _=>rfl⟩
  have hW0:W x.length=L:=by rw[hW,hL]; simp
  refine aU.go ah (fun k=>⟨[(17,.int .i64 (a+k:Nat)),(14,.int .i64 i),(0,.own (gs,gv) 12 0 n fl),(1,.int .i64 a),(2,.int .i64 m),(3,.int .i64 b),(4,.fn fid [] [])],jf gs gv (W k)⟩) (fun k=>t≤k∧k≤x.length) (fun k=>k) x.length ⟨htx,Nat.le_refl _⟩ (by simp[hW0,aK,hm]) fun k hj=>?_
  obtain⟨k1,k2⟩:=hj
  obtain⟨d,hd⟩ : ∃ d,d=a+k:=⟨_,rfl⟩
  rw[← hd]
  have hWl:(W k).length=n:=by rw[hW,hlen]; simp; omega
  by_cases h2:t<k
  ·obtain⟨k',rfl⟩ : ∃ k',k=k'+1:=⟨k-1,by omega⟩
   have h2' : (i:Int)<d:=by omega
   have hkx:k' < x.length:=by omega
   obtain⟨d1,hd1⟩ : ∃ d1,d1=a+k':=⟨_,rfl⟩
   have e3:(d:Int)-1=(d1:Nat):=by omega
   have w3:=wrap64 (n:=(d1:Nat)) (by omega) (by omega)
   have q1:d<(W (k'+1)).length:=by omega
   have q2:d1<(W (k'+1)).length:=by omega
   have q3:d<n:=by omega
   have q4:d1<n:=by omega
   have hs:=afq q1 q2
   have hsw:Qz (W (k'+1)) d d1=W k':=by
    rw[hW,hW,List.take_succ_eq_append_getElem hkx,uZ hkx]
    have:=avC (p++x.take k') [] (x.drop (k'+1)++q) x[k'] v (a:=d1) (b:=d) (by simp; omega) (by simp; omega)
    simp only[List.append_assoc,List.cons_append,List.nil_append,List.singleton_append] at this ⊢
    exact this
   rw[hsw] at hs
   have hrow:(((W (k'+1)).map av).set d (cO (W (k'+1))[d1]))[d1]'(by simpa using q2)=cO (W (k'+1))[d1]:=by
    rw[List.getElem_set]; split
    ·rfl
    ·simp
   obtain⟨l2,hl2⟩ : ∃ l2,W k'=l2:=⟨_,rfl⟩
   rw[hl2] at hs
   generalize W (k'+1)=l1 at *
   simp[h2',e3,w3,q1,q2,q3,q4,hrow,hs]
   exact fun _ _=>⟨k',⟨by omega,by omega⟩,by omega,by simp[hl2,hd1,aK]⟩
  ·have h2' : ¬ (i:Int)<d:=by omega
   obtain rfl:k=t:=by omega
   simp[h2']
   refine⟨jf gs gv (W k),⟨x.take k++v::x.drop k,by rw[hW]; simp,?_,aIv hf hx htx (fun k' hk' e=>j4 k' hk' (by omega)) (fun hk'=>j5 k hk' (by omega))⟩,?_,?_⟩
   ·refine (List.perm_middle (a:=v) (l₁:=x.take k) (l₂:=x.drop k)).trans ?_
    rw[List.take_append_drop]
    exact (List.perm_append_singleton v x).symm
   ·simp
   ·intro a1 b1 _
    by_cases hk:a1=gs∧b1=gv<;>simp[hk,aK]
end Go.Proofs.YtfilonnphgnplaaGreatDoor.Pv
set_option maxRecDepth 100000
namespace Go.Proofs.YtfilonnphgnplaaGreatDoor.Pv
open Go Go.Tidy
def aFo (gs gv fid:Nat) (f:Ob→Ob→Ordering) (D:Ob→Prop) (N:Nat):Prop :=
 ∀ (fl:Bool) (p x y q:List Ob) (L:List Ob) (n a m b:Nat),x.length+y.length≤N→L=p++x++y++q→n=L.length→a=p.length→m=a+x.length→b=m+y.length→0<x.length→0<y.length→Srt f x→Srt f y→(∀ o∈L,D o)→n≤34359738368 →
   uF prog M.iy [.own (gs,gv) 12 0 n fl,.int .i64 a,.int .i64 m,.int .i64 b,.fn fid [] []] (jf gs gv L) (fun r h=>r=.tup []∧∃ z,h=jf gs gv (p++z++q)∧z.Perm (x++y)∧Srt f z)
theorem P9 {hl:Key→Option HE} {a b:List (List PV)} (h:a=b):leR hl a b:=h ▸ aK hl a
set_option maxHeartbeats 8000000 in
theorem axq (gs gv fid:Nat) {f:Ob→Ob→Ordering} {D:Ob→Prop} (hf:Tot f) (hc:aft fid f D) (N:Nat) (ih:aFo gs gv fid f D N)
 (fl:Bool) (p x y q:List Ob) (L:List Ob) (n a m b:Nat) (hN:x.length+y.length≤N+1) (hL:L=p++x++y++q) (hn:n=L.length) (ha:a=p.length) (hm:m=a+x.length) (hb:b=m+y.length) (px:1<x.length) (py:1<y.length) (hx:Srt f x) (hy:Srt f y) (hD:∀ o∈L,D o) (hl:n≤34359738368) :
 uF prog M.iy [.own (gs,gv) 12 0 n fl,.int .i64 a,.int .i64 m,.int .i64 b,.fn fid [] []] (jf gs gv L) (fun r h=>r=.tup []∧∃ z,h=jf gs gv (p++z++q)∧z.Perm (x++y)∧Srt f z):=by
 refine uF.of ah wu (by simp) fun E hP hV=>?_
 have hgV:=hV (gs,gv) ⟨12,L.map av,false,false⟩ (by simp[hk])
 obtain⟨P,w0,F0,nt,G,V,glob⟩:=E
 obtain rfl:P=prog:=hP
 have hlen:n=a+x.length+y.length+q.length:=by rw[hn,hL]; simp; omega
 have e0:(m:Int)-a=(x.length:Nat):=by omega
 have w0':=wrap64 (n:=(x.length:Nat)) (by omega) (by omega)
 have n0:¬ (x.length:Int)=1:=by omega
 have e1:(b:Int)-m=(y.length:Nat):=by omega
 have w1:=wrap64 (n:=(y.length:Nat)) (by omega) (by omega)
 have n1:¬ (y.length:Int)=1:=by omega
 obtain⟨s0,hs0⟩ : ∃ s,s=a+b:=⟨_,rfl⟩
 have es:(a:Int)+b=(s0:Nat):=by omega
 have w2:=wrap64 (n:=(s0:Nat)) (by omega) (by omega)
 have w3:=Oh (n:=(s0:Nat)) (by omega) (by omega)
 obtain⟨mid,hmid⟩ : ∃ h,h=s0 / 2:=⟨_,rfl⟩
 have ef:=fd2 s0
 rw[← hmid] at ef
 have w4:=Oh (n:=(mid:Nat)) (by omega) (by omega)
 have w5:=wrap64 (n:=(mid:Nat)) (by omega) (by omega)
 obtain⟨nn,hnn⟩ : ∃ nn,nn=mid+m:=⟨_,rfl⟩
 have e2:(mid:Int)+m=(nn:Nat):=by omega
 have w6:=wrap64 (n:=(nn:Nat)) (by omega) (by omega)
 obtain⟨lo,hi,hlh⟩ : ∃ lo hi,(mid<m∧lo=nn-b∧hi=mid)∨(m≤mid∧lo=a∧hi=m):=by
  rcases Nat.lt_or_ge mid m with h|h
  ·exact⟨_,_,.inl ⟨h,rfl,rfl⟩⟩
  ·exact⟨_,_,.inr ⟨h,rfl,rfl⟩⟩
 have hxk:∀ k j (hk:k<x.length) (hj:j<L.length),j=a+k→L[j]=x[k]:=fun k j hk hj e=>aa4 (p:=p) (x:=x) (q:=y++q) (by rw[hL]; simp) hk (by omega) hj
 have hyk:∀ k j (hk:k<y.length) (hj:j<L.length),j=m+k→L[j]=y[k]:=fun k j hk hj e=>aa4 (p:=p++x) (x:=y) (q:=q) (by rw[hL]) hk (by simp; omega) hj
 simp[e0,w0',n0,e1,w1,n1,es,w2,w3,p2u,ef,w4,w5,e2,w6]
 refine bQ.one ah ⟨[(20,.int .i64 lo),(21,.int .i64 hi),(18,.int .i64 mid),(19,.int .i64 nn),(0,.own (gs,gv) 12 0 n fl),(1,.int .i64 a),(2,.int .i64 m),(3,.int .i64 b),(4,.fn fid [] [])],jf gs gv L⟩ ?_ ?_
 ·rcases hlh with ⟨h1,h2,h3⟩|⟨h1,h2,h3⟩
  ·have h1' : (mid:Int)<m:=by omega
   have e3:(nn:Int)-b=(lo:Nat):=by omega
   have w7:=wrap64 (n:=(lo:Nat)) (by omega) (by omega)
   simp[h1,h1',e3,w7,h3,aK]
  ·have h1' : ¬ (mid:Int)<m:=by omega
   simp[h1',h2,h3,aK]
 have hlo1:a≤lo:=by omega
 have hlh1:lo≤hi:=by omega
 have hhi1:hi≤m:=by omega
 obtain⟨pp,hpp⟩ : ∃ pp,pp=nn-1:=⟨_,rfl⟩
 have e3:(nn:Int)-1=(pp:Nat):=by omega
 have w7:=wrap64 (n:=(pp:Nat)) (by omega) (by omega)
 simp[e3,w7]
 obtain⟨J,hJ⟩ : ∃ J:Nat × Nat→Prop,J=fun g=>lo≤g.1∧g.1≤g.2∧g.2≤hi∧(∀ k jj (hk:k<x.length) (hj:jj<y.length),a+k+1=g.1→lo<g.1→m+jj+g.1=nn→f y[jj] x[k]≠.lt)∧(∀ k jj (hk:k<x.length) (hj:jj<y.length),a+k=g.2→g.2<hi→m+jj+g.2+1=nn→f y[jj] x[k]=.lt):=⟨_,rfl⟩
 refine aU.go ah (fun (g:Nat × Nat)=>⟨[(20,.int .i64 g.1),(21,.int .i64 g.2),(22,.int .i64 pp),(18,.int .i64 mid),(19,.int .i64 nn),(0,.own (gs,gv) 12 0 n fl),(1,.int .i64 a),(2,.int .i64 m),(3,.int .i64 b),(4,.fn fid [] [])],jf gs gv L⟩) J (fun g=>g.2-g.1) (lo,hi) (by rw[hJ]; exact⟨Nat.le_refl _,hlh1,Nat.le_refl _,fun _ _ _ _ _ h=>absurd h (Nat.lt_irrefl _),fun _ _ _ _ _ h=>absurd h (Nat.lt_irrefl _)⟩) (by simp[aK]) fun g hj=>?_
 obtain⟨i,j⟩:=g
 have hj' : lo≤i∧i≤j∧j≤hi∧(∀ k jj (hk:k<x.length) (hj:jj<y.length),a+k+1=i→lo<i→m+jj+i=nn→f y[jj] x[k]≠.lt)∧(∀ k jj (hk:k<x.length) (hj:jj<y.length),a+k=j→j<hi→m+jj+j+1=nn→f y[jj] x[k]=.lt):=by rw[hJ] at hj; exact hj
 clear hj
 obtain⟨j1,j2,j3,j4,j5⟩:=hj'
 by_cases h1:i<j
 ·obtain⟨s,hs⟩ : ∃ s,s=i+j:=⟨_,rfl⟩
  have es' : (i:Int)+j=(s:Nat):=by omega
  have v2:=wrap64 (n:=(s:Nat)) (by omega) (by omega)
  have v3:=Oh (n:=(s:Nat)) (by omega) (by omega)
  obtain⟨h,hh⟩ : ∃ h,h=s / 2:=⟨_,rfl⟩
  have ef':=fd2 s
  rw[← hh] at ef'
  have v4:=Oh (n:=(h:Nat)) (by omega) (by omega)
  have v5:=wrap64 (n:=(h:Nat)) (by omega) (by omega)
  have v6:=wrap64 (n:=(h:Int)+1) (by omega) (by omega)
  obtain⟨t,ht⟩ : ∃ t,t=pp-h:=⟨_,rfl⟩
  have e4:(pp:Int)-h=(t:Nat):=by omega
  have v7:=wrap64 (n:=(t:Nat)) (by omega) (by omega)
  obtain⟨k,hk⟩ : ∃ k,h=a+k:=⟨h-a,by omega⟩
  obtain⟨kk,hkk⟩ : ∃ kk,t=m+kk:=⟨t-m,by omega⟩
  have hkx:k<x.length:=by omega
  have hky:kk<y.length:=by omega
  have hhL:h<L.length:=by omega
  have htL:t<L.length:=by omega
  have hhn:h<n:=by omega
  have htn:t<n:=by omega
  have hv:=hxk k h hkx hhL hk
  have hu:=hyk kk t hky htL hkk
  simp[h1,es',v2,v3,p2u,ef',v4,v5]
  refine bQ.go ah ?_
  simp[hhL,htL,hhn,htn,hv,hu,e4,v7]
  intro v' _
  refine aH.ret (hc _ _ (hD _ (by rw[← hu]; exact List.getElem_mem _)) (hD _ (by rw[← hv]; exact List.getElem_mem _))) ?_
  by_cases hlt:f y[kk] x[k]=.lt
  ·simp[hlt,Yj]
   refine⟨i,h,?_,by omega,by simp⟩
   rw[hJ]
   refine⟨j1,by simp only; omega,by simp only; omega,j4,fun k' jj hk' hj' c1 c2 c3=>?_⟩
   simp only at c1 c2 c3
   obtain rfl:k'=k:=by omega
   obtain rfl:jj=kk:=by omega
   exact hlt
  ·have hge:¬ Yj (f y[kk] x[k])<0:=by cases e:f y[kk] x[k]<;>simp_all [Yj]
   simp[hge,v6]
   refine⟨h+1,j,?_,by omega,by simp⟩
   rw[hJ]
   refine⟨by simp only; omega,by simp only; omega,j3,fun k' jj hk' hj' c1 c2 c3=>?_,j5⟩
   simp only at c1 c2 c3
   obtain rfl:k'=k:=by omega
   obtain rfl:jj=kk:=by omega
   exact hlt
 ·obtain rfl:i=j:=by omega
  obtain⟨en,hen⟩ : ∃ en,en=nn-i:=⟨_,rfl⟩
  have e4:(nn:Int)-i=(en:Nat):=by omega
  have v4:=wrap64 (n:=(en:Nat)) (by omega) (by omega)
  have hem:m≤en:=by omega
  have heb:en≤b:=by omega
  obtain⟨x1,x2,hx12,hx1⟩ : ∃ x1 x2,x=x1++x2∧x1=x.take (i-a):=⟨_,_,(List.take_append_drop (i-a) x).symm,rfl⟩
  obtain⟨y1,y2,hy12,hy1⟩ : ∃ y1 y2,y=y1++y2∧y1=y.take (en-m):=⟨_,_,(List.take_append_drop (en-m) y).symm,rfl⟩
  have hx1l:x1.length=i-a:=by rw[hx1]; simp; omega
  have hy1l:y1.length=en-m:=by rw[hy1]; simp; omega
  have hx2:x2=x.drop (i-a):=by rw[hx12,List.drop_left' hx1l]
  have hy2:y2=y.drop (en-m):=by rw[hy12,List.drop_left' hy1l]
  have hxl:x.length=x1.length+x2.length:=by rw[hx12]; simp
  have hyl:y.length=y1.length+y2.length:=by rw[hy12]; simp
  have hcross:=aHn (i:=i-a) (j:=en-m) hf hx hy (by omega) (by omega) (fun k hk hj' e=>j4 k (en-m) hk hj' (by omega) (by omega) (by omega)) (fun k hk hi' e=>j5 (i-a) k hi' hk (by omega) (by omega) (by omega))
  rw[← hx1,← hy1,← hx2,← hy2] at hcross
  have sx1:Srt f x1:=by rw[hx1]; exact aBT hx _
  have sx2:Srt f x2:=by rw[hx2]; exact ahz hx _
  have sy1:Srt f y1:=by rw[hy1]; exact aBT hy _
  have sy2:Srt f y2:=by rw[hy2]; exact ahz hy _
  clear j4 j5 hx1 hy1 hx2 hy2
  obtain⟨L2,hL2⟩ : ∃ L2,L2=p++x1++y1++(x2++y2++q):=⟨_,rfl⟩
  have hL2l:L2.length=n:=by rw[hL2,hlen]; simp; omega
  have hpm:L2.Perm L:=by
   rw[hL2,hL,hx12,hy12]
   simp only[List.append_assoc]
   exact List.Perm.append_left p (List.Perm.append_left x1 (List.perm_append_comm_assoc _ _ _))
  have hD2:∀ o∈L2,D o:=fun o ho=>hD o (hpm.mem_iff.1 ho)
  simp[h1,e4,v4]
  refine bQ.one ah ⟨[(20,.int .i64 i),(24,.int .i64 en),(18,.int .i64 mid),(0,.own (gs,gv) 12 0 n fl),(1,.int .i64 a),(2,.int .i64 m),(3,.int .i64 b),(4,.fn fid [] [])],jf gs gv L2⟩ ?_ ?_
  ·by_cases g1:i<m
   ·by_cases g2:m<en
    ·have c1:=aJk gs gv fl (p++x1) x2 y1 (y2++q) fid (L:=L) (n:=n) (a:=i) (m:=m) (b:=en) (by rw[hL,hx12,hy12]; simp) hn (by simp; omega) (by simp; omega) (by simp; omega) (by omega) (by omega) hl
     simp[g1,g2]
     refine aj.Vo c1 ?_
     rintro r h' ⟨rfl,rfl⟩
     have:p++x1++y1++x2++(y2++q)=L2:=by rw[hL2]; simp
     rw[this]
     simp[aK]
    ·have:y1=[]:=List.length_eq_zero_iff.1 (by omega)
     have:L=L2:=by rw[hL2,hL,hx12,hy12,this]; simp
     simp[g1,g2,this,aK]
   ·have:x2=[]:=List.length_eq_zero_iff.1 (by omega)
    have:L=L2:=by rw[hL2,hL,hx12,hy12,this]; simp
    simp[g1,this,aK]
  simp
  refine bQ.many ah (fun z1=>⟨[(24,.int .i64 en),(18,.int .i64 mid),(0,.own (gs,gv) 12 0 n fl),(1,.int .i64 a),(2,.int .i64 m),(3,.int .i64 b),(4,.fn fid [] [])],jf gs gv (p++z1++(x2++y2++q))⟩) (fun z1=>z1.Perm (x1++y1)∧Srt f z1) ?_ ?_
  ·have hno:(x1=[]∨y1=[])→Srt f (x1++y1):=fun h=>by
      rcases h with h|h
      ·rw[h]; simpa using sy1
      ·rw[h]; simpa using sx1
   by_cases g1:a<i
   ·by_cases g2:i<mid
    ·have c1:=ih fl p x1 y1 (x2++y2++q) L2 n a i mid (by omega) hL2 hL2l.symm ha (by omega) (by omega) (by omega) (by omega) sx1 sy1 hD2 hl
     simp[g1,g2]
     refine aj.Vo c1 ?_
     rintro r h' ⟨rfl,z1,rfl,hz1,hz2⟩
     generalize hZ:p++z1++(x2++y2++q)=Z
     simp
     exact⟨z1,⟨hz1,hz2⟩,P9 (by rw[← hZ]; simp)⟩
    ·have:y1=[]:=List.length_eq_zero_iff.1 (by omega)
     simp[g1,g2]
     exact⟨x1++y1,⟨List.Perm.refl _,hno (.inr this)⟩,P9 (by rw[hL2]; simp)⟩
   ·have:x1=[]:=List.length_eq_zero_iff.1 (by omega)
    simp[g1]
    exact⟨x1++y1,⟨List.Perm.refl _,hno (.inl this)⟩,P9 (by rw[hL2]; simp)⟩
  rintro z1 ⟨hz1,hz2⟩
  have hz1l:z1.length=x1.length+y1.length:=by rw[hz1.length_eq]; simp
  obtain⟨L3,hL3⟩ : ∃ L3,L3=(p++z1)++x2++y2++q:=⟨_,rfl⟩
  have hL3e:p++z1++(x2++y2++q)=L3:=by rw[hL3]; simp
  have hL3l:L3.length=n:=by rw[hL3,hlen]; simp; omega
  have hpm3:L3.Perm L2:=by
   rw[← hL3e,hL2]
   simp only[List.append_assoc]
   refine List.Perm.append_left p ?_
   rw[← List.append_assoc x1]
   exact List.Perm.append_right _ hz1
  have hD3:∀ o∈L3,D o:=fun o ho=>hD2 o (hpm3.mem_iff.1 ho)
  have hperm:∀ z2:List Ob,z2.Perm (x2++y2)→(z1++z2).Perm (x++y):=fun z2 h=>by
   refine (List.Perm.append hz1 h).trans ?_
   rw[hx12,hy12]
   simp only[List.append_assoc]
   refine List.Perm.append_left x1 ?_
   rw[← List.append_assoc,← List.append_assoc]
   exact List.Perm.append_right _ List.perm_append_comm
  rw[hL3e]
  simp
  refine bQ.many ah (fun z2=>⟨[],jf gs gv (p++(z1++z2)++q)⟩) (fun z2=>z2.Perm (x2++y2)∧Srt f z2) ?_ ?_
  ·have hno:(x2=[]∨y2=[])→Srt f (x2++y2):=fun h=>by
      rcases h with h|h
      ·rw[h]; simpa using sy2
      ·rw[h]; simpa using sx2
   by_cases g1:mid<en
   ·by_cases g2:en<b
    ·have c1:=ih fl (p++z1) x2 y2 q L3 n mid en b (by omega) hL3 hL3l.symm (by simp; omega) (by omega) (by omega) (by omega) (by omega) sx2 sy2 hD3 hl
     simp[g1,g2]
     refine aj.Vo c1 ?_
     rintro r h' ⟨rfl,z2,rfl,hz3,hz4⟩
     generalize hZ:p++z1++z2++q=Z
     simp
     exact⟨z2,⟨hz3,hz4⟩,P9 (by rw[← hZ]; simp)⟩
    ·have:y2=[]:=List.length_eq_zero_iff.1 (by omega)
     simp[g1,g2]
     exact⟨x2++y2,⟨List.Perm.refl _,hno (.inr this)⟩,P9 (by rw[hL3]; simp)⟩
   ·have:x2=[]:=List.length_eq_zero_iff.1 (by omega)
    simp[g1]
    exact⟨x2++y2,⟨List.Perm.refl _,hno (.inl this)⟩,P9 (by rw[hL3]; simp)⟩
  rintro z2 ⟨hz3,hz4⟩
  generalize hZ:p++(z1++z2)++q=Z
  simp
  refine⟨jf gs gv Z,⟨z1++z2,by rw[← hZ]; simp,hperm z2 hz3,aKe hz2 hz4 hz1 hz3 hcross⟩,by simp,?_⟩
  intro a1 b1 _
  by_cases hk:a1=gs∧b1=gv<;>simp[hk,aK]
theorem ahY (gs gv fid:Nat) {f:Ob→Ob→Ordering} {D:Ob→Prop} (hf:Tot f) (hc:aft fid f D):∀ N,aFo gs gv fid f D N
 | 0=>fun fl p x y q L n a m b hN _ _ _ _ _ px=>by omega
 | N+1=>fun fl p x y q L n a m b hN hL hn ha hm hb px py hx hy hD hl=>by
   by_cases h1:x.length=1
   ·obtain⟨u,rfl⟩:=List.length_eq_one_iff.1 h1
    have:=aF0 gs gv fl p u y q fid hf hc (L:=L) (n:=n) (a:=a) (m:=m) (b:=b) (by rw[hL]; simp) hn ha (by simpa using hm) hb py hy hD hl
    simpa using this
   ·by_cases h2:y.length=1
    ·obtain⟨v,rfl⟩:=List.length_eq_one_iff.1 h2
     exact aFD gs gv fl p x v q fid hf hc (L:=L) (n:=n) (a:=a) (m:=m) (b:=b) (by rw[hL]; simp) hn ha hm (by simpa using hb) (by omega) hx hD hl
    ·exact axq gs gv fid hf hc N (ahY gs gv fid hf hc N) fl p x y q L n a m b hN hL hn ha hm hb (by omega) (by omega) hx hy hD hl
end Go.Proofs.YtfilonnphgnplaaGreatDoor.Pv
set_option maxRecDepth 100000
namespace Go.Proofs.YtfilonnphgnplaaGreatDoor.Pv
open Go Go.Tidy
structure vw where
 D:List (List Ob)
 E:List (List Ob)
 r:List Ob
def vw.l (g:vw):List Ob:=g.D.flatten++g.E.flatten++g.r
def Chk (f:Ob→Ob→Ordering) (bs:Nat) (D:List (List Ob)):Prop:=∀ d∈D,d.length=bs∧Srt f d
theorem aCS {f:Ob→Ob→Ordering} {bs:Nat} {D:List (List Ob)} {z:List Ob} (h:Chk f bs D) (h1:z.length=bs) (h2:Srt f z):Chk f bs (D++[z]):=fun d hd=>by
 rcases List.mem_append.1 hd with hd|hd
 ·exact h d hd
 ·rw[List.mem_singleton.1 hd]; exact⟨h1,h2⟩
set_option maxHeartbeats 8000000 in
theorem aJa (gs gv:Nat) (fl:Bool) (fid:Nat) {f:Ob→Ob→Ordering} {D:Ob→Prop} (hf:Tot f) (hc:aft fid f D) (L:List Ob) (hD:∀ o∈L,D o) (hl:L.length≤34359738368) :
 uF prog M.yx [.own (gs,gv) 12 0 L.length fl,.int .i64 L.length,.fn fid [] []] (jf gs gv L) (fun r h=>r=.tup []∧∃ l',h=jf gs gv l'∧l'.Perm L∧Srt f l'):=by
 refine uF.of ah acv (by simp) fun E hP hV=>?_
 have hgV:=hV (gs,gv) ⟨12,L.map av,false,false⟩ (by simp[hk])
 obtain⟨P,w0,F0,nt,G,V,glob⟩:=E
 obtain rfl:P=prog:=hP
 obtain⟨n,hn⟩ : ∃ n,n=L.length:=⟨_,rfl⟩
 rw[← hn] at hl ⊢
 simp
 obtain⟨J,hJ⟩ : ∃ J:vw→Prop,J=fun g=>Chk f 20 g.D∧g.E=[]∧g.l.Perm L:=⟨_,rfl⟩
 refine aU.go ah (fun (g:vw)=>⟨[(6,.int .i64 20),(7,.int .i64 g.D.flatten.length),(8,.int .i64 (g.D.flatten.length+20:Nat)),(0,.own (gs,gv) 12 0 n fl),(1,.int .i64 n),(2,.fn fid [] [])],jf gs gv g.l⟩) J (fun g=>g.r.length) ⟨[],[],L⟩ (by rw[hJ]; exact⟨fun d hd=>by simp at hd,rfl,by simp[vw.l]⟩) (by simp[vw.l,aK]) fun g hj=>?_
 have hj' : Chk f 20 g.D∧g.E=[]∧g.l.Perm L:=by rw[hJ] at hj; exact hj
 clear hj
 obtain⟨j1,j2,j3⟩:=hj'
 have hgl:g.l=g.D.flatten++g.r:=by simp[vw.l,j2]
 obtain⟨A,hA⟩ : ∃ A,A=g.D.flatten.length:=⟨_,rfl⟩
 have hAn:A+g.r.length=n:=by rw[hn,← j3.length_eq,hgl,List.length_append,hA]
 have hgD:∀ o∈g.l,D o:=fun o ho=>hD o (j3.mem_iff.1 ho)
 have hgn:n=g.l.length:=by rw[j3.length_eq]; exact hn
 obtain⟨A2,hA2⟩ : ∃ A2,A2=A+20:=⟨_,rfl⟩
 rw[← hA,← hA2]
 by_cases h1:A2≤n
 ·obtain⟨x,q,hxq,hxl⟩ : ∃ x q,g.r=x++q∧x.length=20:=⟨g.r.take 20,g.r.drop 20,(List.take_append_drop _ _).symm,by simp; omega⟩
  have hrl:g.r.length=20+q.length:=by rw[hxq]; simp[hxl]
  have c1:=am1 gs gv fl g.D.flatten x q fid hf hc (L:=g.l) (n:=n) (a:=A) (b:=A2) (by rw[hgl,hxq]; simp) hgn hA (by omega) hgD hl
  have w1:=wrap64 (n:=(A2:Int)+20) (by omega) (by omega)
  simp[h1]
  refine aj.Vo c1 ?_
  rintro r h' ⟨rfl,z,rfl,hz1,hz2⟩
  have hzl:z.length=20:=by rw[hz1.length_eq]; exact hxl
  have hl2:(⟨g.D++[z],[],q⟩ : vw).l=g.D.flatten++z++q:=by simp[vw.l]
  have hfl:(g.D++[z]).flatten.length=A2:=by rw[List.flatten_append,List.length_append,← hA]; simp; omega
  generalize hZ:g.D.flatten++z++q=Z at *
  simp[w1]
  refine⟨⟨g.D++[z],[],q⟩,?_,by simp only; omega,?_⟩
  ·rw[hJ]
   refine⟨aCS j1 hzl hz2,rfl,?_⟩
   rw[hl2,← hZ]
   refine List.Perm.trans ?_ j3
   rw[hgl,hxq,List.append_assoc]
   exact List.Perm.append_left _ (List.Perm.append_right _ hz1)
  ·simp only[hfl,hl2]
   simp[aK]
   simp at hfl
   omega
 ·have c1:=am1 gs gv fl g.D.flatten g.r [] fid hf hc (L:=g.l) (n:=n) (a:=A) (b:=n) (by rw[hgl]; simp) hgn hA (by omega) hgD hl
  simp[h1]
  refine aj.Vo c1 ?_
  rintro r h' ⟨rfl,z,rfl,hz1,hz2⟩
  have hzl:z.length=g.r.length:=hz1.length_eq
  have hp0:(g.D.flatten++z).Perm L:=by
   refine List.Perm.trans ?_ j3
   rw[hgl]
   exact List.Perm.append_left _ hz1
  rw[List.append_nil]
  clear hJ J
  obtain⟨J,hJ⟩ : ∃ J:Nat × vw→Prop,J=fun g=>0<g.1∧g.1≤2*n+20∧Chk f g.1 g.2.D∧g.2.E=[]∧g.2.r.length<g.1∧Srt f g.2.r∧g.2.l.Perm L:=⟨_,rfl⟩
  have hst:(⟨g.D,[],z⟩ : vw).l=g.D.flatten++z:=by simp[vw.l]
  generalize hZ:g.D.flatten++z=Z at *
  simp
  refine aU.go ah (fun (g:Nat × vw)=>⟨[(6,.int .i64 g.1),(0,.own (gs,gv) 12 0 n fl),(1,.int .i64 n),(2,.fn fid [] [])],jf gs gv g.2.l⟩) J (fun g=>n-g.1) (20,⟨g.D,[],z⟩) (by rw[hJ]; exact⟨by simp,by simp only; omega,j1,rfl,by simp only; omega,hz2,by simp only[hst]; exact hp0⟩) (by simp only[hst]; simp[aK]) fun G hj=>?_
  clear hZ hst hp0 hz1 hz2 hzl c1 h1 hA2 hAn hA hgl j1 j2 j3 hgD hgn
  clear A2 A Z z g
  obtain⟨bs,g⟩:=G
  have hj' : 0<bs∧bs≤2*n+20∧Chk f bs g.D∧g.E=[]∧g.r.length<bs∧Srt f g.r∧g.l.Perm L:=by rw[hJ] at hj; exact hj
  clear hj
  obtain⟨j0,j00,j1,j2,j3,j4,j5⟩:=hj'
  have hgl:g.l=g.D.flatten++g.r:=by simp[vw.l,j2]
  have hgn:n=g.l.length:=by rw[j5.length_eq]; exact hn
  have hlen:g.D.flatten.length+g.r.length=n:=by rw[hgn,hgl,List.length_append]
  by_cases h1:bs<n
  ·obtain⟨b2,hb2⟩ : ∃ b2,b2=2*bs:=⟨_,rfl⟩
   have e2:(2:Int)*bs=(b2:Nat):=by omega
   have e2' : (bs:Int)*2=(b2:Nat):=by omega
   have w2:=wrap64 (n:=(b2:Nat)) (by omega) (by omega)
   simp[h1,e2,w2]
   obtain⟨J2,hJ2⟩ : ∃ J2:vw→Prop,J2=fun k=>Chk f b2 k.D∧Chk f bs k.E∧k.r=g.r∧k.l.Perm L:=⟨_,rfl⟩
   have hst:(⟨[],g.D,g.r⟩ : vw).l=g.l:=by rw[hgl]; simp[vw.l]
   refine aU.go ah (fun (k:vw)=>⟨[(6,.int .i64 bs),(7,.int .i64 k.D.flatten.length),(8,.int .i64 (k.D.flatten.length+b2:Nat)),(0,.own (gs,gv) 12 0 n fl),(1,.int .i64 n),(2,.fn fid [] [])],jf gs gv k.l⟩) J2 (fun k=>k.E.length) ⟨[],g.D,g.r⟩ (by rw[hJ2]; exact⟨fun d hd=>by simp at hd,j1,rfl,by rw[hst]; exact j5⟩) (by simp only[hst]; simp[aK]) fun k hj=>?_
   have hj' : Chk f b2 k.D∧Chk f bs k.E∧k.r=g.r∧k.l.Perm L:=by rw[hJ2] at hj; exact hj
   clear hj
   obtain⟨k1,k2,k3,k4⟩:=hj'
   have hkD:∀ o∈k.l,D o:=fun o ho=>hD o (k4.mem_iff.1 ho)
   have hkn:n=k.l.length:=by rw[k4.length_eq]; exact hn
   obtain⟨A,hA⟩ : ∃ A,A=k.D.flatten.length:=⟨_,rfl⟩
   have hkl:A+k.E.flatten.length+g.r.length=n:=by rw[hkn,← k3,hA]; simp[vw.l]; omega
   obtain⟨A2,hA2⟩ : ∃ A2,A2=A+b2:=⟨_,rfl⟩
   rw[← hA,← hA2]
   match hE:k.E with
   | d1::d2::E' =>
     rw[hE] at hkl k2
     have q1:=k2 d1 (by simp)
     have q2:=k2 d2 (by simp)
     have hkl' : A+bs+bs+E'.flatten.length+g.r.length=n:=by
      rw[← hkl]; simp[q1.1,q2.1]; omega
     have h2:A2≤n:=by omega
     obtain⟨m,hm⟩ : ∃ m,m=A+bs:=⟨_,rfl⟩
     have em:(A:Int)+bs=(m:Nat):=by omega
     have wm:=wrap64 (n:=(m:Nat)) (by omega) (by omega)
     have w4:=wrap64 (n:=(A2:Int)+b2) (by omega) (by omega)
     have hkl2:k.l=k.D.flatten++d1++d2++(E'.flatten++g.r):=by simp[vw.l,hE,k3]
     have c1:=ahY gs gv fid hf hc (d1.length+d2.length) fl k.D.flatten d1 d2 (E'.flatten++g.r) k.l n A m A2 (Nat.le_refl _) hkl2 hkn hA (by omega) (by omega) (by omega) (by omega) q1.2 q2.2 hkD hl
     simp[h2,em,wm,e2,w2]
     refine aj.Vo c1 ?_
     rintro r h' ⟨rfl,z,rfl,hz1,hz2⟩
     have hzl:z.length=b2:=by rw[hz1.length_eq,List.length_append]; omega
     have hl2:(⟨k.D++[z],E',g.r⟩ : vw).l=k.D.flatten++z++(E'.flatten++g.r):=by simp[vw.l]
     have hfl:(k.D++[z]).flatten.length=A2:=by rw[List.flatten_append,List.length_append,← hA]; simp; omega
     generalize hZ:k.D.flatten++z++(E'.flatten++g.r)=Z at *
     simp[w4,e2,w2]
     refine⟨⟨k.D++[z],E',g.r⟩,?_,by simp only[hE,List.length_cons]; omega,?_⟩
     ·rw[hJ2]
      refine⟨aCS k1 hzl hz2,fun d hd=>k2 d (by simp[hd]),rfl,?_⟩
      rw[hl2,← hZ]
      refine List.Perm.trans ?_ k4
      rw[hkl2]
      simp only[List.append_assoc]
      refine List.Perm.append_left _ ?_
      rw[← List.append_assoc d1]
      exact List.Perm.append_right _ hz1
     ·simp only[hfl,hl2]
      simp[aK]
      simp at hfl
      omega
   | [d] =>
     rw[hE] at hkl k2
     have q1:=k2 d (by simp)
     have hkl' : A+bs+g.r.length=n:=by rw[← hkl]; simp[q1.1]
     have h2:¬ A2≤n:=by omega
     obtain⟨m,hm⟩ : ∃ m,m=A+bs:=⟨_,rfl⟩
     have em:(A:Int)+bs=(m:Nat):=by omega
     have wm:=wrap64 (n:=(m:Nat)) (by omega) (by omega)
     have hkl2:k.l=k.D.flatten++d++g.r++[]:=by simp[vw.l,hE,k3]
     simp[h2,em,wm]
     refine bQ.many ah (fun r2=>⟨[(6,.int .i64 bs),(0,.own (gs,gv) 12 0 n fl),(1,.int .i64 n),(2,.fn fid [] [])],jf gs gv (k.D.flatten++r2)⟩) (fun r2:List Ob=>r2.length<b2∧Srt f r2∧(k.D.flatten++r2).Perm L) ?_ ?_
     ·by_cases h3:m<n
      ·have c1:=ahY gs gv fid hf hc (d.length+g.r.length) fl k.D.flatten d g.r [] k.l n A m n (Nat.le_refl _) hkl2 hkn hA (by omega) (by omega) (by omega) (by omega) q1.2 j4 hkD hl
       simp[h3]
       refine aj.Vo c1 ?_
       rintro r h' ⟨rfl,z,rfl,hz1,hz2⟩
       have hzl:z.length=bs+g.r.length:=by rw[hz1.length_eq,List.length_append,q1.1]
       have hzp:(k.D.flatten++z).Perm L:=by
        refine List.Perm.trans ?_ k4
        rw[hkl2,List.append_nil,List.append_assoc]
        exact List.Perm.append_left _ hz1
       generalize hZ:k.D.flatten++z++[]=Z
       simp
       exact⟨z,⟨by omega,hz2,hzp⟩,P9 (by rw[← hZ]; simp)⟩
      ·have hr0:g.r=[]:=List.length_eq_zero_iff.1 (by omega)
       have hkl3:k.l=k.D.flatten++d:=by rw[hkl2,hr0]; simp
       simp[h3]
       exact⟨d,⟨by omega,q1.2,by rw[← hkl3]; exact k4⟩,P9 (by rw[hkl3]; simp)⟩
     ·rintro r2 ⟨r1,r3,r4⟩
      have hst:(⟨k.D,[],r2⟩ : vw).l=k.D.flatten++r2:=by simp[vw.l]
      rw[← hst] at r4 ⊢
      generalize hZ:(⟨k.D,[],r2⟩ : vw).l=Z at *
      simp[e2',w2]
      refine⟨b2,⟨k.D,[],r2⟩,?_,by omega,rfl,P9 (by rw[hZ])⟩
      rw[hJ]
      exact⟨by simp only; omega,by simp only; omega,k1,rfl,r1,r3,by simp only[hZ]; exact r4⟩
   | [] =>
     rw[hE] at hkl k2
     have hkl' : A+g.r.length=n:=by rw[← hkl]; simp
     have h2:¬ A2≤n:=by omega
     obtain⟨m,hm⟩ : ∃ m,m=A+bs:=⟨_,rfl⟩
     have em:(A:Int)+bs=(m:Nat):=by omega
     have wm:=wrap64 (n:=(m:Nat)) (by omega) (by omega)
     have h3:¬ m<n:=by omega
     have hst:(⟨k.D,[],g.r⟩ : vw).l=k.l:=by simp[vw.l,hE,k3]
     simp[h2,em,wm]
     refine bQ.one ah ⟨[(6,.int .i64 bs),(0,.own (gs,gv) 12 0 n fl),(1,.int .i64 n),(2,.fn fid [] [])],jf gs gv k.l⟩ (by simp[h3,aK]) ?_
     simp[e2',w2]
     refine⟨b2,⟨k.D,[],g.r⟩,?_,by omega,rfl,P9 (by rw[hst])⟩
     rw[hJ]
     exact⟨by simp only; omega,by simp only; omega,k1,rfl,by simp only; omega,j4,by simp only[hst]; exact k4⟩
  ·have hsrt:Srt f g.l:=by
      rw[hgl]
      match hDD:g.D with
      | []=>simpa using j4
      | [d] =>
        rw[hDD] at hlen j1
        have q1:=j1 d (by simp)
        have:g.r=[]:=List.length_eq_zero_iff.1 (by simp[q1.1] at hlen; omega)
        rw[this]; simpa using q1.2
      | d1::d2::E' =>
        rw[hDD] at hlen j1
        have q1:=j1 d1 (by simp)
        have q2:=j1 d2 (by simp)
        simp[q1.1,q2.1] at hlen
        omega
   simp[h1]
   refine⟨jf gs gv g.l,⟨g.l,rfl,j5,hsrt⟩,by simp,?_⟩
   intro a1 b1 _
   by_cases hk:a1=gs∧b1=gv<;>simp[hk,aK]
set_option maxHeartbeats 4000000 in
theorem aCU (gs gv:Nat) (fl:Bool) (fid:Nat) {f:Ob→Ob→Ordering} {D:Ob→Prop} (hf:Tot f) (hc:aft fid f D) (L:List Ob) (hD:∀ o∈L,D o) (hl:L.length≤34359738368) :
 uF prog M.xu [.own (gs,gv) 12 0 L.length fl,.fn fid [] []] (jf gs gv L) (fun r h=>r=.tup []∧∃ l',h=jf gs gv l'∧l'.Perm L∧Srt f l'):=by
 refine uF.of ah abu (by simp) fun E hP hV=>?_
 have hgV:=hV (gs,gv) ⟨12,L.map av,false,false⟩ (by simp[hk])
 obtain⟨P,w0,F0,nt,G,V,glob⟩:=E
 obtain rfl:P=prog:=hP
 have c1:=aJa gs gv fl fid hf hc L hD hl
 simp
 refine aj.Vo c1 ?_
 rintro r h' ⟨rfl,l',rfl,h1,h2⟩
 simp
 refine⟨jf gs gv l',⟨l',rfl,h1,h2⟩,by simp,?_⟩
 intro a1 b1 _
 by_cases hk:a1=gs∧b1=gv<;>simp[hk,aK]
end Go.Proofs.YtfilonnphgnplaaGreatDoor.Pv
set_option maxRecDepth 100000
namespace Go.Proofs.YtfilonnphgnplaaGreatDoor.Pv
open Go Go.Tidy
def aMM (fid:Nat) (e:Ob→Ob→Bool) (D:Ob→Prop):Prop:=∀ a b,D a→D b→Ret prog fid [.agg (cO a),.agg (cO b)] (.bool (e a b))
theorem azC {α:Type} {W L:List α} {i j:Nat} (h:W.drop i=L.drop i) (hij:i≤j) (h1:j<W.length) (h2:j<L.length):W[j]=L[j]:=by
 have e1:W[j]=(W.drop i)[j-i]'(by simp; omega):=by simp[show i+(j-i)=j by omega]
 have e2:L[j]=(L.drop i)[j-i]'(by simp; omega):=by simp[show i+(j-i)=j by omega]
 rw[e1,e2]
 simp only[h]
structure CpG where
 k:Nat
 c:Nat
 W:List Ob
set_option maxHeartbeats 8000000 in
theorem avX (gs gv:Nat) (fl:Bool) (fid:Nat) {e:Ob→Ob→Bool} {D:Ob→Prop} (hc:aMM fid e D) (L:List Ob) (hD:∀ o∈L,D o) (hl:L.length≤34359738368) :
 uF prog M.zu [.own (gs,gv) 12 0 L.length fl,.fn fid [] []] (jf gs gv L) (fun r h=>∃ fl',r=.own (gs,gv) 12 0 (oO e L).length fl'∧h=jf gs gv (oO e L)):=by
 refine uF.of ah adX (by simp) fun E hP hV=>?_
 have hgV:=hV (gs,gv) ⟨12,L.map av,false,false⟩ (by simp[hk])
 obtain⟨P,w0,F0,nt,G,V,glob⟩:=E
 obtain rfl:P=prog:=hP
 obtain⟨n,hn⟩ : ∃ n,n=L.length:=⟨_,rfl⟩
 obtain⟨C,hC⟩ : ∃ C,C=oO e L:=⟨_,rfl⟩
 rw[← hn] at hl ⊢
 rw[← hC]
 by_cases h2:n<2
 ·have h2' : (n:Int)<2:=by omega
  have hCL:C=L:=by
   rw[hC]
   exact akK fun j hj h0=>by omega
  simp[h2',-Bool.exists_bool]
  refine⟨jf gs gv L,⟨by rw[hCL,hn],by rw[hCL]⟩,by simp,?_⟩
  intro a1 b1 _
  by_cases hk:a1=gs∧b1=gv<;>simp[hk,aK]
 ·have h2' : ¬ (n:Int)<2:=by omega
  simp[h2',-Bool.exists_bool]
  refine aU.go ah (fun (k:Nat)=>⟨[(5,.int .i64 k),(0,.own (gs,gv) 12 0 n fl),(1,.fn fid [] [])],jf gs gv L⟩) (fun k=>1≤k∧k≤n∧∀ j (hj:j<L.length),0<j→j<k→e L[j] L[j-1]=false) (fun k=>n-k) 1 ⟨Nat.le_refl _,by omega,fun j _ h0 h1=>by omega⟩ (by simp[aK]) fun k hj=>?_
  obtain⟨j1,j2,j3⟩:=hj
  by_cases h1:k<n
  ·obtain⟨k1,hk1⟩ : ∃ k1,k=k1+1:=⟨k-1,by omega⟩
   have ek:(k:Int)-1=(k1:Nat):=by omega
   have w1:=wrap64 (n:=(k1:Nat)) (by omega) (by omega)
   have w2:=wrap64 (n:=(k:Int)+1) (by omega) (by omega)
   have q1:k<L.length:=by omega
   have q2:k1<L.length:=by omega
   have q3:k1<n:=by omega
   have hcc:=hc L[k] L[k1] (hD _ (List.getElem_mem q1)) (hD _ (List.getElem_mem q2))
   have hkk:L[k-1]'(by omega)=L[k1]:=by simp[hk1]
   simp[h1,ek,w1,q1,q2,q3,-Bool.exists_bool]
   intro v _
   refine aH.ret hcc ?_
   cases hE:e L[k] L[k1]
   ·simp[w2,-Bool.exists_bool]
    refine⟨k+1,⟨by omega,by omega,fun j hj h0 hjk=>?_⟩,by omega,by simp[aK]⟩
    rcases Nat.lt_or_ge j k with h|h
    ·exact j3 j hj h0 h
    ·obtain rfl:j=k:=by omega
     rw[hkk]; exact hE
   ·obtain⟨m,hm⟩ : ∃ m,m=n-k:=⟨_,rfl⟩
    have em:(n:Int)-k=(m:Nat):=by omega
    have em2:((n:Int)-k).toNat=m:=by omega
    simp[j2,hm.symm,-Bool.exists_bool]
    obtain⟨J,hJ⟩ : ∃ J:CpG→Prop,J=fun g=>g.W.length=n∧1≤g.c∧k+g.c≤n∧g.k<k+g.c∧g.W.take g.k=oO e (L.take (k+g.c))∧g.W.drop (k+g.c-1)=L.drop (k+g.c-1)∧g.k=(oO e (L.take (k+g.c))).length:=⟨_,rfl⟩
    have htk:oO e (L.take k)=L.take k:=by
     refine akK fun j hj h0=>?_
     simp only[List.length_take] at hj
     have:=j3 j (by omega) h0 (by omega)
     simpa using this
    have hstart:J ⟨k,1,L⟩:=by
     rw[hJ]
     have e1:oO e (L.take (k+1))=L.take k:=by
      rw[ail (by omega) q1,htk,hkk,hE]; simp
     exact⟨hn.symm,Nat.le_refl _,by simp only; omega,by simp only; omega,e1.symm,rfl,by simp only[e1]; simp; omega⟩
    refine aU.go ah (fun (g:CpG)=>⟨[(5,.int .i64 g.k),(7,.int .i64 g.c),(6,.own (gs,gv) 12 k m fl),(0,.own (gs,gv) 12 0 n fl),(1,.fn fid [] [])],jf gs gv g.W⟩) J (fun g=>n-g.c) ⟨k,1,L⟩ hstart (by simp[em,aK]) fun g hj=>?_
    have hj' : g.W.length=n∧1≤g.c∧k+g.c≤n∧g.k<k+g.c∧g.W.take g.k=oO e (L.take (k+g.c))∧g.W.drop (k+g.c-1)=L.drop (k+g.c-1)∧g.k=(oO e (L.take (k+g.c))).length:=by rw[hJ] at hj; exact hj
    clear hj
    obtain⟨g1,g2,g3,g4,g5,g6,g7⟩:=hj'
    by_cases h3:g.c<m
    ·obtain⟨c1,hc1⟩ : ∃ c1,g.c=c1+1:=⟨g.c-1,by omega⟩
     have ec:(g.c:Int)-1=(c1:Nat):=by omega
     have v1:=wrap64 (n:=(c1:Nat)) (by omega) (by omega)
     have v2:=wrap64 (n:=(g.c:Int)+1) (by omega) (by omega)
     have v3:=wrap64 (n:=(g.k:Int)+1) (by omega) (by omega)
     have p1:k+g.c<L.length:=by omega
     have p2:k+c1<L.length:=by omega
     have p3:k+g.c<g.W.length:=by omega
     have p4:k+c1<g.W.length:=by omega
     have p5:c1<m:=by omega
     have p6:g.k<n:=by omega
     have p7:g.k<g.W.length:=by omega
     have hv:=azC g6 (j:=k+g.c) (by omega) p3 p1
     have hu:=azC g6 (j:=k+c1) (by omega) p4 p2
     have hcc:=hc L[k+g.c] L[k+c1] (hD _ (List.getElem_mem p1)) (hD _ (List.getElem_mem p2))
     have hct:=ail (e:=e) (l:=L) (j:=k+g.c) (by omega) p1
     have hkk2:L[k+g.c-1]'(by omega)=L[k+c1]:=by simp[hc1]
     rw[hkk2] at hct
     have hdr:∀ W' : List Ob,W'.drop (k+g.c)=g.W.drop (k+g.c)→W'.drop (k+(g.c+1)-1)=L.drop (k+(g.c+1)-1):=fun W' h=>by
      rw[show k+(g.c+1)-1=k+g.c by omega,h]
      have:=congrArg (List.drop 1) g6
      simpa[List.drop_drop,show k+g.c-1+1=k+g.c by omega] using this
     simp[h3,-Bool.exists_bool]
     refine bQ.go ah ?_
     simp[h3,ec,v1,p1,p2,p3,p4,p5,hv,hu,-Bool.exists_bool]
     intro v' _
     refine aH.ret hcc ?_
     cases hE2:e L[k+g.c] L[k+c1]
     ·rw[hE2] at hct
      have hset:(g.W.map av).set g.k (cO L[k+g.c])=(g.W.set g.k L[k+g.c]).map av:=by rw[List.map_set,qM]
      have hJ' : J ⟨g.k+1,g.c+1,g.W.set g.k L[k+g.c]⟩:=by
       rw[hJ]
       refine⟨by simpa using g1,by simp only; omega,by simp only; omega,by simp only; omega,?_,hdr _ (by rw[List.drop_set_of_lt (by omega)]),?_⟩
       ·simp only
        rw[show k+(g.c+1)=k+g.c+1 by omega,hct,← g5,List.take_succ_eq_append_getElem (by simpa using p7),List.take_set_of_le (Nat.le_refl _)]
        simp
       ·simp only
        rw[show k+(g.c+1)=k+g.c+1 by omega,hct]
        simp[← g7]
      generalize g.W.set g.k L[k+g.c]=W2 at *
      simp[h3,ec,v1,v2,v3,p1,p2,p3,p4,p5,p6,p7,hv,hu,hset,-Bool.exists_bool]
      exact⟨⟨g.k+1,g.c+1,W2⟩,hJ',by simp only; omega,by simp,aK _ _⟩
     ·rw[hE2] at hct
      simp[v2,-Bool.exists_bool]
      refine⟨⟨g.k,g.c+1,g.W⟩,?_,by simp only; omega,by simp,aK _ _⟩
      rw[hJ]
      refine⟨g1,by simp only; omega,by simp only; omega,by simp only; omega,?_,hdr _ rfl,?_⟩
      ·simp only
       rw[show k+(g.c+1)=k+g.c+1 by omega,hct,g5]; simp
      ·simp only
       rw[show k+(g.c+1)=k+g.c+1 by omega,hct]
       simpa using g7
    ·have hcn:k+g.c=n:=by omega
     have hLC:oO e (L.take (k+g.c))=C:=by rw[hcn,hn,List.take_length,hC]
     rw[hLC] at g5 g7
     have hkn:g.k≤n:=by omega
     have hkW:g.k≤g.W.length:=by omega
     have hrows:(g.W.map av).take g.k=C.map av:=by rw[← List.map_take,g5]
     have e3:((n:Int)-g.k).toNat=n-g.k:=by omega
     have e4:g.k+(n-g.k)≤g.W.length:=by omega
     simp[h3,hkn,e3,e4,hrows,-Bool.exists_bool]
     refine⟨by omega,jf gs gv C,⟨g7,rfl⟩,by simp,?_⟩
     intro a1 b1 _
     by_cases hk:a1=gs∧b1=gv<;>simp[hk,aK]
  ·obtain rfl:k=n:=by omega
   have hCL:C=L:=by
    rw[hC]
    exact akK fun j hj h0=>j3 j hj h0 (by omega)
   simp[-Bool.exists_bool]
   refine⟨jf gs gv L,⟨by rw[hCL,hn],by rw[hCL]⟩,by simp,?_⟩
   intro a1 b1 _
   by_cases hk:a1=gs∧b1=gv<;>simp[hk,aK]
end Go.Proofs.YtfilonnphgnplaaGreatDoor.Pv
