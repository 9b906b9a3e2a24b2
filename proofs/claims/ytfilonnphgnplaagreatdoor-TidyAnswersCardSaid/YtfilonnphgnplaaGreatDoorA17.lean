/- Part 17. -/
import Derived.Test.YtfilonnphgnplaaGreatDoorA16
set_option linter.unusedSimpArgs false
set_option linter.unusedVariables false
set_option maxRecDepth 100000
namespace Go.Proofs.YtfilonnphgnplaaGreatDoor.Pv
open Go Go.Tidy Go.RowKit
def ain (P:Program) (f:FuncId):Prop:=callable P f=true ∧
 ∀ (blk off cap n i j:Nat) (news:List Value) (w:World),j=i+1→i<n→n≤cap→cap≤9223372036854775807→news.length=(n-j)*12→(∀ u∈news,u.oneCell'=true) →
   (∀ (k:Nat) (u:Value),news[k]? = some u→w.cell? ⟨blk,off+j*12+k,none⟩=some u)→(∀ k,k<n*12→(w.cell? ⟨blk,off+k,none⟩).isSome=true∧w.frozen? ⟨blk,off+k,none⟩=false) →
   Calls P f #[.slice (some ⟨blk,off,none⟩) n cap,.int .i64 i,.int .i64 j] w fun e w'=>e=.returned (.slice (some ⟨blk,off,none⟩) (i+(n-j)) cap)∧∃ zs,w'=(w.drew.setCells blk (off+i*12) news).setCells blk (off+(i+(n-j))*12) zs
theorem aKB (hS:ain prog M.qW) (gs gv:Nat) (fl:Bool) (L:List Ob) (i:Nat) (hi:i<L.length) (hl:L.length≤34359738368) :
 uF prog M.qW [.own (gs,gv) 12 0 L.length fl,.int .i64 i,.int .i64 (i+1:Nat)] (jf gs gv L) (fun r h=>r=.own (gs,gv) 12 0 (L.length-1) false∧h=jf gs gv (L.eraseIdx i)):=by
 obtain⟨hS0,hS1⟩:=hS
 refine⟨hS0,fun E a c w vs d s hP hg hrep=>?_⟩
 obtain⟨v,vs',rfl,hv,vi,vs'',rfl,⟨rfl,_⟩,vj,vs3,rfl,⟨rfl,_⟩,hvs⟩:=hrep
 obtain rfl:vs3=[]:=hvs
 obtain⟨u1,u2,u3,sa,cap,rfl,v2,v3,v4,v5,v6⟩:=hv
 have hh:=hg.hgood
 have he:hk (gs,gv) (jf gs gv L)=some ⟨12,L.map av,false,false⟩:=by simp[hk]
 obtain⟨ad,b1,b2,⟨ca,el,fr,b3,b4,b5⟩,b6,b7⟩:=(hh.heap _ _ he).block (by simp; omega)
 rw[b1] at v6
 have v6':=v6.resolve_left (by omega)
 obtain⟨rfl,w6⟩:=v6'
 have b6' : aJ w c.d 12 ad.block ad.off (L.map av):=b6
 have b4' : ad.off+L.length*12≤ca.size:=by simpa using b4
 obtain⟨news,n1,n2,n3,n4⟩:=(aJ.drop (i+1) b6').vals
 have hnl:news.length=(L.length-(i+1))*12:=by rw[n3]; simp
 have hc:=hS1 ad.block ad.off cap L.length i (i+1) news w rfl hi v2 v3 hnl n2 (fun k u hk=>n4 k u hk) (fun k hk=>by
  have h6:ad.off+k<ca.size:=by omega
  refine⟨by simp[World.cell?,b3,h6],?_⟩
  simp only[World.frozen?,b3]
  have:=b5 _ h6
  simpa using this)
 rw[show (#[Value.slice (some ⟨ad.block,ad.off+0*12,none⟩) L.length cap,.int .i64 i,.int .i64 (i+1:Nat)]:Array Value)=#[Value.slice (some ⟨ad.block,ad.off,none⟩) L.length cap,.int .i64 i,.int .i64 (i+1:Nat)] by simp]
 refine Calls.mono hc ?_
 rintro e w' ⟨rfl,zs,rfl⟩
 have hn1:i+(L.length-(i+1))=L.length-1:=by omega
 rw[hn1]
 obtain⟨k1,k2⟩:=(hh.drew).del (g:=(gs,gv)) (esz:=12) (xs:=L.map av) he b1 (i:=i) (by simpa using hi) (news:=news) (zs:=zs) (p:=ad.off+i*12) (q:=ad.off+(L.length-1)*12)
  (aY.mono _ _ (c:=c.d) (IQ w) (Ctx.Le.refl c.d) n1) n2 rfl (by simp)
 have km:dZ c.Fz w _:=(IQ w).trans k2
 have her:(L.map av).eraseIdx i=(L.eraseIdx i).map av:=by
  rw[List.eraseIdx_eq_take_drop_succ,List.eraseIdx_eq_take_drop_succ,List.map_append,List.map_take,List.map_drop]
 rw[her] at k1
 refine⟨_,rfl,_,_,c,⟨rfl,rfl⟩,hg.put (st':=⟨Ji d _ s,jf gs gv (L.eraseIdx i)⟩) (r:=.own (gs,gv) 12 0 (L.length-1) false) (by cases d<;>rfl) (k1.congr fun k e hk'=>?_) ?_ (Ctx.Le.refl c) km⟩
 ·simp only[jf,gq] at hk' ⊢
  split at hk'
  ·rename_i e1; rw[if_pos e1]; exact hk'
  ·simp[hk] at hk'
 ·refine⟨u1,u2,u3,_,cap,rfl,by omega,v3,by omega,by simp,?_⟩
  rw[b1]
  refine .inr ⟨by simp,?_⟩
  obtain⟨cs,el,fr,w1,w2⟩:=w6
  obtain⟨cs',fr',x1,x2⟩:=km.keep _ _ _ _ w1
  exact⟨cs',el,fr',x1,by omega⟩
end Go.Proofs.YtfilonnphgnplaaGreatDoor.Pv
set_option maxRecDepth 100000
namespace Go.Proofs.YtfilonnphgnplaaGreatDoor.Pv
open Go Go.Tidy
theorem aMX (o:Ordering):Yj o=dX o:=by cases o<;>rfl
set_option maxHeartbeats 4000000 in
theorem aDk:aft M.JC mg (fun o=>bf o=true):=fun a b ha hb'=>by
 refine Ret.go ah an5 (by simp) fun hb w0 F0 hG=>?_
 have c1:=uy a
 have c2:=uy b
 have c3:=am8 (eu a) (eu b) (oH ha) (oH hb')
 rw[abM,← aMX] at c3
 simp
 intro v1 v2 v3
 refine aH.ret c1 ?_
 simp
 refine aH.ret c2 ?_
 simp
 refine aH.ret c3 ?_
 simp
set_option maxHeartbeats 4000000 in
theorem aBF:aMM M.Jy (fun a b=>mg a b == .eq) (fun o=>bf o=true):=fun a b ha hb'=>by
 refine Ret.go ah aow (by simp) fun hb w0 F0 hG=>?_
 have c1:=uy a
 have c2:=uy b
 have c3:=Xq (eu a) (eu b) (oH ha) (oH hb')
 have e:jm (eu a) (eu b)=(mg a b == .eq):=by unfold jm; rw[abM]
 rw[e] at c3
 simp
 intro v1 v2 v3
 refine aH.ret c1 ?_
 simp
 refine aH.ret c2 ?_
 simp
 refine aH.ret c3 ?_
 simp
theorem aJE:Tot mg:=⟨ae7,aoG⟩
structure ZH where
 a:List Ob
 b:List Ob
def ZH.l (g:ZH):List Ob:=g.a++g.b
def Eu (l:List Ob) (i:Nat) (o:Ob):Nat→Bool
 | 0=>false
 | n+1=>Eu l i o n||(n != i&&(match l[n]? with|some x=>mQ o x|none=>false))
theorem aJU (a b:List Ob) (o:Ob):Eu (a++o::b) a.length o (a++o::b).length=(a.any (mQ o)||b.any (mQ o)):=by
 have h1:∀ n,n≤a.length→Eu (a++o::b) a.length o n=(a.take n).any (mQ o):=by
  intro n
  induction n with
  | zero=>intro _; simp[Eu]
  | succ n ih =>
    intro hn
    have h:n<a.length:=by omega
    rw[Eu,ih (by omega),List.getElem?_append_left h,List.getElem?_eq_getElem h,List.take_succ_eq_append_getElem h,List.any_append]
    have:(n != a.length)=true:=by simp; omega
    simp only[this,List.any_cons,List.any_nil,Bool.or_false,Bool.true_and]
 have h2:∀ n,n≤b.length→Eu (a++o::b) a.length o (a.length+1+n)=(a.any (mQ o)||(b.take n).any (mQ o)):=by
  intro n
  induction n with
  | zero=>intro _; simp[Eu,h1 a.length (Nat.le_refl _)]
  | succ n ih =>
    intro hn
    have h:n<b.length:=by omega
    have e:(a++o::b)[a.length+1+n]? = some b[n]:=by
     rw[List.getElem?_append_right (by omega),show a.length+1+n-a.length=n+1 by omega,List.getElem?_cons_succ,List.getElem?_eq_getElem h]
    rw[show a.length+1+(n+1)=(a.length+1+n)+1 by omega,Eu,ih (by omega),e,List.take_succ_eq_append_getElem h,List.any_append]
    have:(a.length+1+n != a.length)=true:=by simp; omega
    simp only[this,List.any_cons,List.any_nil,Bool.or_false,Bool.true_and,Bool.or_assoc]
 have:=h2 b.length (Nat.le_refl _)
 rw[List.take_length] at this
 rw[← this]
 congr 1
 simp; omega
set_option maxHeartbeats 8000000 in
theorem aDp (hS:ain prog M.qW) (gs gv:Nat) (fl:Bool) (L:List Ob) (hF:∀ o∈L,l6 (eu o)) (hl:L.length≤34359738368) (h6:¬ gs=6) :
 uF prog M.VK [.own (gs,gv) 12 0 L.length fl] (jf gs gv L) (fun r h=>∃ fl',r=.own (gs,gv) 12 0 (dN [] L).length fl'∧h=jf gs gv (dN [] L)):=by
 refine uF.of ah anB (by simp) fun E hP hV=>?_
 have hgV:=hV (gs,gv) ⟨12,L.map av,false,false⟩ (by simp[hk])
 obtain⟨P,w0,F0,nt,G,V,glob⟩:=E
 obtain rfl:P=prog:=hP
 have hgV' : gv<V:=hgV
 obtain⟨R,hR⟩ : ∃ R,R=dN [] L:=⟨_,rfl⟩
 rw[← hR]
 simp[h6,-Bool.exists_bool]
 obtain⟨J,hJ⟩ : ∃ J:Bool × ZH→Prop,J=fun g=>dN g.2.a g.2.b=R∧(∀ o∈g.2.l,l6 (eu o))∧g.2.l.length≤L.length:=⟨_,rfl⟩
 refine aU.go ah (fun (g:Bool × ZH)=>⟨[(3,.int .i64 g.2.a.length),(0,.own (gs,gv) 12 0 g.2.l.length g.1)],jf gs gv g.2.l⟩) J (fun g=>g.2.b.length) (fl,⟨[],L⟩) (by rw[hJ]; exact⟨hR.symm,by simpa[ZH.l] using hF,by simp[ZH.l]⟩) (by simp[ZH.l,aK]) fun g hj=>?_
 obtain⟨f,g⟩:=g
 have hj' : dN g.a g.b=R∧(∀ o∈g.l,l6 (eu o))∧g.l.length≤L.length:=by rw[hJ] at hj; exact hj
 clear hj
 obtain⟨j1,j2,j3⟩:=hj'
 obtain⟨i,hi⟩ : ∃ i,i=g.a.length:=⟨_,rfl⟩
 obtain⟨n,hn⟩ : ∃ n,n=g.l.length:=⟨_,rfl⟩
 have hln:n=i+g.b.length:=by rw[hn,hi]; simp[ZH.l]
 simp only[← hi,← hn]
 match hb:g.b with
 | [] =>
   rw[hb] at hln j1
   have h1:¬ i<n:=by simp at hln; omega
   have hRa:g.l=R:=by rw[aGc] at j1; simp[ZH.l,hb,j1]
   simp[h1,h6,-Bool.exists_bool]
   refine⟨jf gs gv R,⟨by rw[hn,hRa],rfl⟩,by simp,?_⟩
   rw[hRa]
   intro a1 b1 _
   by_cases hk:a1=gs∧b1=gv<;>simp[hk,aK]
 | o::b' =>
   rw[hb] at hln j1
   have h1:i<n:=by simp at hln; omega
   have hle:g.l=g.a++o::b':=by simp[ZH.l,hb]
   have hio:∀ h:i<g.l.length,g.l[i]=o:=fun h=>aa4 (p:=g.a) (x:=[o]) (q:=b') (by rw[hle]; simp) (k:=0) (by simp) (by omega) h
   have hiL:i<g.l.length:=by omega
   have hio:=hio hiL
   have hwi:=wrap64 (n:=(i:Int)+1) (by omega) (by omega)
   simp[h1,h6,-Bool.exists_bool]
   refine aU.cnt ah n (fun k (_:Unit)=>⟨[(13,.int .i64 k),(12,.int .i64 n),(11,.own (gs,gv) 12 0 n f),(4,.bool (Eu g.l i o k)),(3,.int .i64 i),(0,.own (gs,gv) 12 0 n f)],jf gs gv g.l⟩) (fun _ _=>True) () trivial (by simp[Eu,aK]) fun k _ hk _=>?_
   have hw:=wrap64 (n:=(k:Int)+1) (by omega) (by omega)
   by_cases h2:k<n
   ·have hkL:k<g.l.length:=by omega
    have hst:Eu g.l i o (k+1)=(Eu g.l i o k||(k != i&&mQ o g.l[k])):=by rw[Eu,List.getElem?_eq_getElem hkL]
    obtain⟨q,hq⟩ : ∃ q,q=Eu g.l i o (k+1):=⟨_,rfl⟩
    rw[← hq] at hst
    have cb:=ax8 (eu o) (eu g.l[k]) (j2 o (by rw[← hio]; exact List.getElem_mem _)) (j2 _ (List.getElem_mem _))
    have ca:=uy o
    have ck:=uy g.l[k]
    have hbe:nU (eu g.l[k]) (eu o)=mQ o g.l[k]:=rfl
    rw[hbe] at cb
    generalize hp:Eu g.l i o k=p at *
    cases p
    ·by_cases h3:k=i
     ·have h3' : (k:Int)=i:=by omega
      have hst' : q=false:=by rw[hst]; simp[h3]
      simp[h2,hkL,hiL,h1,h3',hwi,hq.symm,hst',h6,-Bool.exists_bool]
     ·have h3' : ¬ (k:Int)=i:=by omega
      have hst' : q=mQ o g.l[k]:=by rw[hst]; simp[h3]
      simp[h2,hkL,hiL,h1,h3',hw,hio,h6,-Bool.exists_bool]
      intro v1 hv1 v2 hv2
      refine aH.ret ca ?_
      simp[h2,hkL,hiL,h1,h3',hw,hio,h6,-Bool.exists_bool]
      refine aH.ret ck ?_
      simp[h2,hkL,hiL,h1,h3',hw,hio,h6,-Bool.exists_bool]
      refine aH.ret cb ?_
      simp[h2,hkL,hiL,h1,h3',hw,hio,h6,hq.symm,hst',aK,-Bool.exists_bool]
    ·have hst' : q=true:=by rw[hst]; simp
     simp[h2,hkL,hiL,h1,hw,hq.symm,hst',h6,aK,-Bool.exists_bool]
   ·have hkn:k=n:=by omega
    have hany:Eu g.l i o k=(g.a.any (mQ o)||b'.any (mQ o)):=by rw[hkn,hn,hle,hi]; exact aJU _ _ _
    rw[hany]
    rw[aDW] at j1
    simp[h2,h6,-Bool.exists_bool]
    refine bQ.go ah ?_
    cases hp:(g.a.any (mQ o)||b'.any (mQ o))
    ·rw[hp] at j1
     have hl2:(⟨g.a++[o],b'⟩ : ZH).l=g.l:=by simp[ZH.l,hb]
     simp[hwi,h6,-Bool.exists_bool]
     refine⟨f,⟨g.a++[o],b'⟩,?_,by simp[hb],?_⟩
     ·rw[hJ]
      exact⟨by simpa using j1,by simp only[hl2]; exact j2,by simp only[hl2]; exact j3⟩
     ·simp only[hl2,← hn]
      simp[hi,aK]
    ·rw[hp] at j1
     have hl2:(⟨g.a,b'⟩ : ZH).l=g.l.eraseIdx i:=by
      rw[hle,hi,List.eraseIdx_append_of_length_le (Nat.le_refl _)]
      simp[ZH.l]
     have c1:=aKB hS gs gv f g.l i hiL (by omega)
     rw[← hn] at c1
     obtain⟨i1,hi1⟩ : ∃ i1,i1=i+1:=⟨_,rfl⟩
     have ei1:(i:Int)+1=(i1:Nat):=by omega
     have wi1:=wrap64 (n:=(i1:Nat)) (by omega) (by omega)
     rw[← hi1] at c1
     simp[ei1,wi1,h6,-Bool.exists_bool]
     refine aj.Vo c1 ?_
     rintro r h' ⟨rfl,rfl⟩
     have hll:(g.l.eraseIdx i).length=n-1:=by rw[List.length_eraseIdx_of_lt hiL,hn]
     rw[← hll]
     generalize hE:g.l.eraseIdx i=l2 at *
     simp[h6,-Bool.exists_bool]
     refine⟨false,⟨g.a,b'⟩,?_,by simp[hb],?_⟩
     ·rw[hJ]
      refine⟨by simpa using j1,fun x hx=>?_,?_⟩
      ·simp only[hl2] at hx
       exact j2 x (List.mem_of_mem_eraseIdx (by rw[hE]; exact hx))
      ·simp only[hl2]; omega
     ·simp only[hl2]
      simp[hi,aK]
end Go.Proofs.YtfilonnphgnplaaGreatDoor.Pv
set_option maxRecDepth 100000
namespace Go.Proofs.YtfilonnphgnplaaGreatDoor.Pv
open Go Go.Tidy
def p9 (l:List Ob):List Ob:=dN [] (jg l)
theorem avi {l:List Ob}:∀ x∈p9 l,x∈l:=fun x hx=>(wZ _ _ x hx).elim (fun h=>by cases h) ((qJ l).1 x)
theorem ajI (l:List Ob):(p9 l).length≤l.length:=by
 have h1:=(Bq (jg l) []).1
 have h2:=(qJ l).2.1
 unfold p9
 simp at h1; omega
set_option maxHeartbeats 8000000 in
theorem air (hS:ain prog M.qW) (h:Int) (L:List Ob) (w:Ob) (D:Ob→Prop) (hl:L.length≤34359738368) (hDf:∀ o,D o→bf o=true) (hDF:∀ o,D o→l6 (eu o)) (hDm:∀ o,D o→aeL o) (hD:∀ o∈L,D o)
 (hw:4<(p9 L).length→D w∧Ret prog M.ZX [.vec 12 false (((p9 L).drop 3).map av)] (.agg (cO (pq ((p9 L).drop 3))))∧Ret prog M.rz [.agg (cO (pq ((p9 L).drop 3))),.int .i64 h] (.agg (cO w))) :
 Ret prog M.wz [.vec 12 false (L.map av),.int .i64 h] (.vec 12 false ((if (p9 L).length≤4 then p9 L else p9 ((p9 L).take 3++[w])).map av)):=by
 refine Ret.go ah as6 (by simp) fun hb w0 F0 hG=>?_
 have c0:=OO false (L.map av) (by simp; omega)
 obtain⟨R,hR⟩ : ∃ R,R=(if (p9 L).length≤4 then p9 L else p9 ((p9 L).take 3++[w])):=⟨_,rfl⟩
 rw[← hR]
 simp
 refine aU.scope ah [(0,12,1000)] rfl 0 (fun v (l:List Ob)=>⟨[(0,.own (1000,v) 12 0 l.length false),(1,.int .i64 h)],jf 1000 v l⟩) (fun l=>l=L∨(4<(p9 L).length∧l=(p9 L).take 3++[w])) (fun l=>l.length) rfl ?_ ?_
 ·simp
  refine aj.ru (by simpa using c0) ?_
  intro v hv
  simp
 ·intro v l hv hj
  have hlD:∀ o∈l,D o:=fun o ho=>by
   rcases hj with rfl|⟨h4,rfl⟩
   ·exact hD o ho
   ·rcases List.mem_append.1 ho with ho|ho
    ·exact hD o (avi o (List.mem_of_mem_take ho))
    ·rw[List.mem_singleton.1 ho]; exact (hw h4).1
  have hll:l.length≤34359738368:=by
   rcases hj with rfl|⟨h4,rfl⟩
   ·exact hl
   ·simp; omega
  have c1:=aCU 1000 v false M.JC aJE aDk l (fun o ho=>hDf o (hlD o ho)) hll
  simp
  refine aj.Vo c1 ?_
  rintro r h' ⟨rfl,l',rfl,hp,hs⟩
  have hpl:l'.length=l.length:=hp.length_eq
  have hC:oO (fun a b=>mg a b == .eq) l'=jg l:=aDv l l' (fun x hx=>hDm x (hlD x hx)) hp hs
  have c2:=avX 1000 v false M.Jy aBF l' (fun o ho=>hDf o (hlD o (hp.mem_iff.1 ho))) (by omega)
  rw[hC,hpl] at c2
  have c3:=fun fl=>aDp hS 1000 v fl (jg l) (fun o ho=>hDF o (hlD o ((qJ l).1 o ho))) (by have:=(qJ l).2.1; omega) (by decide)
  have hX:dN [] (jg l)=p9 l:=rfl
  rw[hX] at c3
  generalize jg l=rw1 at *
  simp
  refine aj.Vo c2 ?_
  rintro r h' ⟨fl,rfl,rfl⟩
  simp
  refine aj.Vo (c3 fl) ?_
  rintro r h' ⟨fl2,rfl,rfl⟩
  by_cases g4:(p9 l).length≤4
  ·have g4' : ¬ (4:Int)<(p9 l).length:=by omega
   have hRl:R=p9 l:=by
    rcases hj with rfl|⟨h4,rfl⟩
    ·rw[hR,if_pos g4]
    ·rw[hR,if_neg (by omega)]
   rw[hRl]
   generalize p9 l=q at *
   simp[g4']
  ·have g4' : (4:Int)<(p9 l).length:=by omega
   have hlL:l=L:=by
    rcases hj with h|⟨h4,rfl⟩
    ·exact h
    ·exact absurd (Nat.le_trans (ajI _) (by simp; omega)) g4
   subst hlL
   obtain⟨hwD,co,cb⟩:=hw (by omega)
   have hpl2:4<l.length:=by have:=ajI l; omega
   generalize p9 l=q at *
   have e3:(3:Int)≤q.length:=by omega
   have e5:((q.map av).drop 3).take (q.length-3)=(q.drop 3).map av:=by rw[List.take_of_length_le (by simp),List.map_drop]
   have e6:3+(q.length-3)≤q.length:=by omega
   have e7:((q.length:Int)-3).toNat=q.length-3:=by omega
   have e8:3≤q.length:=by omega
   simp[g4',e3,e6,e7,e8,e5]
   intro v1
   generalize pq (q.drop 3)=x at *
   refine aH.ret (r:=.agg (cO x)) (by
    have:ni (fun k=>hk k (jf 1000 v q)) [.own (1000,v) 12 3 (q.length-3) fl2]=[.vec 12 false ((q.drop 3).map av)]:=by
     simp only[ni,reify,hk,if_true,e5]
    rw[this]; exact co) ?_
   simp[e8,e6]
   refine aH.ret (r:=.agg (cO w)) (by simpa using cb) ?_
   simp[e8,e6]
   exact⟨q.take 3++[w],⟨by omega,rfl⟩,by simp; omega,fun v1=>⟨by simp; omega,P9 (by simp)⟩⟩
end Go.Proofs.YtfilonnphgnplaaGreatDoor.Pv
set_option maxRecDepth 100000
namespace Go.Proofs.YtfilonnphgnplaaGreatDoor.Pv
open Go Go.Tidy
structure Bf:Prop where
 keys:∃ kt et,ac9 prog 164 kt et M.MQ M.xk
 del:ain prog M.qW
theorem avE {NM:List S} {m:Nat} (hn:NM.length≤34359738368) (hm:0<m) {o:Ob} (h:bf o=true) (hb:bdO NM m o):l6 (eu o) :=
 ⟨oH h,aak hn _ (oH h) (aoc hm hb)⟩
theorem aAs (hL:Bf) (h:Int) (N:Ty→Ty) (NM:List S) (B:Nat) (hN:abz M.jK h N NM B) (hNf:∀ t,ak t=true→ak (N t)=true) (hNn:∀ t,ak t=true→never (N t)=never t) (hNb:∀ t m,bdT NM m t→bdT NM 4 (N t)) (h3:NM.length≤134217728) (hM:4*(NM.length+1)≤B)
 (l:List Ob) (hf:∀ o∈l,bf o=true) (hb4:∀ o∈l,bdO NM 4 o) (hl:l.length≤1073741824) (hB:4*l.length≤B):Ret prog M.wz [.vec 12 false (l.map av),.int .i64 h] (.vec 12 false ((l8 N l).map av)):=by
 obtain⟨kt,et,hk⟩:=hL.keys
 have hd:∀ x∈(p9 l).drop 3,x∈l:=fun x hx=>avi x (List.mem_of_mem_drop hx)
 have hpl:=ajI l
 have key:=air hL.del h l (gU N (pq ((p9 l).drop 3))) (fun o=>bf o=true∧bdO NM 4 o) (by omega) (fun o h=>h.1) (fun o h=>avE (by omega) (by omega) h.1 h.2) (fun o h=>aso h.1) (fun o ho=>⟨hf o ho,hb4 o ho⟩) (fun h4=>by
  have hne:(p9 l).drop 3≠[]:=fun e=>by have:=congrArg List.length e; simp at this; omega
  have fo:=Uh (fun o ho=>hf o (hd o ho)) hne
  have bo:=agY fun o ho=>hb4 o (hd o ho)
  refine⟨⟨zl hNf hNn fo,QL hNb bo⟩,apk hk NM 4 _ (fun o ho=>hf o (hd o ho)) (fun o ho=>hb4 o (hd o ho)) (by simp; omega) (by simp; omega) h3,?_⟩
  refine am2 h N NM B _ hN hNf hNn hNb (by omega) hM _ fo bo ?_
  simp; omega)
 exact key
def afQ (h:Nat):Nat:=40001*4 ^ (8-h)
theorem aG8 {h:Nat} (hh:h<8):afQ h=4*afQ (h+1):=by
 unfold afQ
 have:8-h=(8-(h+1))+1:=by omega
 rw[this,Nat.pow_succ,← Nat.mul_assoc,Nat.mul_comm]
theorem aFd (h:Nat):40001≤afQ h:=Nat.le_mul_of_pos_right _ (Nat.pow_pos (by omega))
theorem aLF {h:Nat} (hh:1≤h):afQ h≤1073741824:=by
 unfold afQ
 have h1:4 ^ (8-h)≤4 ^ 7:=Nat.pow_le_pow_right (by omega) (by omega)
 calc 40001*4 ^ (8-h)≤40001*4 ^ 7:=Nat.mul_le_mul (by omega) h1
  _≤1073741824:=by decide
theorem aLp (hL:Bf) (NM:List S) (hn:NM.length≤40000):∀ h:Nat,h≤8→abz M.jK h (bG h) NM (afQ h):=by
 intro h
 induction h with
 | zero =>
   intro _ t m ht hb hm
   rw[zw]
   split
   ·rename_i hc
    refine aiF _ t ?_
    simp only[Bool.or_eq_true,Bool.not_eq_true',List.isEmpty_eq_false_iff] at hc
    rcases hc with (hc|hc)|hc
    ·exact .inl hc
    ·exact .inr ⟨by simp,.inl hc⟩
    ·exact .inr ⟨by simp,.inr hc⟩
   ·rename_i hc
    simp only[Bool.or_eq_true,Bool.not_eq_true',not_or,Bool.not_eq_true,Bool.not_eq_false,List.isEmpty_iff,List.isEmpty_eq_false_iff,Decidable.not_not,ne_eq] at hc
    obtain⟨⟨e0,ea⟩,eo⟩:=hc
    have:=ajU ((0:Nat):Int) t [] id id (by simp) (by simp) e0 (fun _=>⟨ea,eo⟩) (by rw[ea]; exact ady ht (by simp) (by simp) (by simp)) (by rw[eo]; simp) (by rw[ea]; simp) (by rw[ea]; simp) (by rw[eo]; simp) (by
     rw[eo]
     have:=air hL.del (((0:Nat):Int)-1) [] (.mk [] [] [] d9) (fun o=>bf o=true∧bdO NM 4 o) (by simp) (fun o h=>h.1) (fun o h=>avE (by omega) (by omega) h.1 h.2) (fun o h=>aso h.1) (by simp) (fun h4=>by simp[p9,jg,dN] at h4)
     simpa[p9,jg,dN] using this)
    rw[ea] at this
    exact this
 | succ h ih =>
   intro h8 t m ht hb hm
   have ih':=ih (by omega)
   have hcs:=aG8 (h:=h) (by omega)
   have hc1:=aFd (h+1)
   have hcg:4*(NM.length+1)≤afQ h:=by omega
   have hcl:=aLF (h:=h+1) (by omega)
   rw[uM]
   split
   ·rename_i hc
    exact aiF _ t (.inl hc)
   ·rename_i hc
    obtain⟨t1,t2,t3,t4,t5,t6,t7,t8⟩:=cu ht
    have hbi:=mH.1 hb
    have eh:(((h+1:Nat):Int)-1)=(h:Int):=by omega
    have hNn:∀ t,ak t=true→never (bG h t)=never t:=fun t ht=>acE h t ht
    have hW:∀ o∈t.objects,Ret prog M.rz [.agg (cO o),.int .i64 h] (.agg (cO (gU (bG h) o))):=fun o ho =>
     am2 h (bG h) NM (afQ h) m ih' (ko h) hNn (Av h) (by omega) hcg o (t8 o ho) (hbi.2.2.2 o ho) (by omega)
    have hfm:∀ o∈t.objects.map (gU (bG h)),bf o=true:=fun o ho=>by
     obtain⟨x,hx,rfl⟩:=List.mem_map.1 ho
     exact zl (ko h) hNn (t8 x hx)
    have hbm:∀ o∈t.objects.map (gU (bG h)),bdO NM 4 o:=fun o ho=>by
     obtain⟨x,hx,rfl⟩:=List.mem_map.1 ho
     exact QL (Av h) (hbi.2.2.2 x hx)
    have hO:=aAs hL h (bG h) NM (afQ h) ih' (ko h) hNn (Av h) (by omega) hcg (t.objects.map (gU (bG h))) hfm hbm (by simp; omega) (by simp; omega)
    refine ajU ((h+1:Nat):Int) t _ (gU (bG h)) (bG h) (by omega) (by omega) (by simpa using hc) (fun h1=>by omega) ?_ (by omega) t6 (fun a ha=>?_) (fun o ho=>?_) ?_
    ·refine ady ht (by simpa using t6) (fun a ha=>?_) (Xg (ko h) hNn hfm)
     obtain⟨x,hx,rfl⟩:=List.mem_map.1 ha
     obtain⟨x1,x2,x3,x4,x5⟩:=gY (t7 x hx)
     exact UY x1 x2 x3 (ko h _ x4) (by rw[Arr.QB,hNn _ x4]; exact x5)
    ·rw[eh]
     exact ih' a.item m (gY (t7 a ha)).2.2.2.1 (hbi.2.2.1 a ha) (by omega)
    ·rw[eh]; exact hW o ho
    ·rw[eh]; exact hO
theorem aHN (hL:Bf) (NM:List S) (hn:NM.length≤40000) (t:Ty) (m:Nat) (hm:m≤40001) (hb:bdT NM m t) (hh:ay t<1073741824) (ht:ak t=true):Ret prog M.Dh [.agg (cT t)] (.agg (cT (oQ t))) :=
 aF5 t hh (fun h h8=>aLp hL NM hn h h8 t m ht hb (Nat.le_trans hm (aFd h))) fun h h8 =>
  ⟨⟨ko h t ht,aak (by omega) _ (ko h t ht) (Av h t m hb)⟩,by have:=aaL h t 8 (.inr h8); omega⟩
theorem aJV {NM:List S} {m:Nat} {t:Ty} (hb:bdT NM m t):bdT NM 4 (oQ t):=by
 obtain⟨k,_,e⟩:=aAz t
 rw[e]; exact Av k t m hb
theorem aG6 (hL:Bf) (NM:List S) (hn:NM.length≤40000) (t:Ty) (m:Nat) (hm:m≤40001) (hb:bdT NM m t) (hh:ay t<1073741824):Ret prog M.Lg [.agg (cT t)] (.tup [.agg (cT (if ak t then oQ t else d9)),.int .i64 (if ak t then 0 else 1)]) :=
 aFO t (aHN hL NM hn t m hm hb hh) fun ht=>Iw NM 4 (by omega) (by omega) _ (aev ht) (aJV hb)
theorem aJ7 (hL:Bf) (NM:List S) (hn:NM.length≤40000) (t:Ty) (m:Nat) (hm:m≤40001) (hb:bdT NM m t) (hh:ay t<1073741824):Ret prog M.IG [.agg (cT t)] (.bool (ak t&&jm t (oQ t))) :=
 aI8 t (aHN hL NM hn t m hm hb hh) aev
theorem aKL (a b:Ty) (NM:List S) (m:Nat) (hn:NM.length≤40000) (hm:2*m≤4294967296) (hba:bdT NM m a) (hbb:bdT NM m b):Ret prog M.Qh [.agg (cT a),.agg (cT b)] (.tup [.agg (cT (if ak a&&ak b then jO a b else d9)),.int .i64 (if ak a&&ak b then 0 else 1)]) :=
 aHJ a b NM m hm hba hbb fun ha hb=>Iw NM (m+m) (by omega) (by omega) _ (aa7 a b ha hb) (aBv hba hbb)
end Go.Proofs.YtfilonnphgnplaaGreatDoor.Pv
set_option maxRecDepth 100000
namespace Go.Proofs.YtfilonnphgnplaaGreatDoor.Pv
open Go Go.Tidy
theorem aL6 (t:Ty) (h:t.all=true∨(t.arrays≠[]∨t.objects≠[])):Ret prog M.p8 [.agg (cT t),.int .i64 0] (.agg (cT dn)):=by
 refine Ret.go ah aqu (by simp) fun hb w0 F0 hG=>?_
 simp only[fu,gQ,List.length_map,LIM,and_true] at hb
 cases e0:t.all
 ·have h2:t.arrays≠[]∨t.objects≠[]:=by simpa[e0] using h
  have hl:0<(t.arrays.length:Int)+t.objects.length:=by
   rcases h2 with h2|h2
   ·have:=List.length_pos_iff.2 h2; omega
   ·have:=List.length_pos_iff.2 h2; omega
  have w:=wrap64 (n:=(t.arrays.length:Int)+t.objects.length) (by omega) (by omega)
  simp[e0,hl,w]
  intros
  refine aj.ret oz ?_
  simp[dn]
 ·simp[e0]
  intros
  refine aj.ret oz ?_
  simp[dn]
theorem aMf (t:Ty) (ht:ak t=true) (h:t.all=true∨(t.arrays≠[]∨t.objects≠[])):Ret prog M.QD [.agg (cT t),.int .i64 0] (.tup [.agg (cT dn),.int .i64 0]):=by
 refine Ret.go ah ap7 (by simp) fun hb w0 F0 hG=>?_
 have c1:=sU t
 have c2:=aL6 t h
 rw[ht] at c1
 simp
 intro v2 v4
 refine aj.ret (by simpa using c1) ?_
 simp
 refine aj.ret (by simpa using c2) ?_
 simp
set_option maxHeartbeats 4000000 in
theorem aKQ (hL:Bf) (NM:List S) (m:Nat) (l:List Ob) (hne:l≠[]) (hf:∀ o∈l,bf o=true) (hm:∀ o∈l,bdO NM m o) (h0:0<m) (h4:l.length*m≤4294967296) (hNM:NM.length≤134217728) :
 Ret prog M.Jm [.vec 12 false (l.map av)] (.tup [.agg (cO (pq l)),.int .i64 0]):=by
 obtain⟨kt,et,hk⟩:=hL.keys
 have hl0:0<l.length:=List.length_pos_iff.2 hne
 have hlm:l.length≤l.length*m:=Nat.le_mul_of_pos_right _ h0
 have c1:=apk hk NM m l hf hm h4 (by omega) hNM
 have f1:=Uh hf hne
 have c2:=uy (pq l)
 have c3:=Iw NM (l.length*m) (by omega) (by omega) (eu (pq l)) (oH f1) (aoc (by omega) (agY hm))
 refine Ret.go ah ahv (by simp) fun hb w0 F0 hG=>?_
 generalize pq l=r at *
 have g0:¬ (l.length:Int)=0:=by omega
 simp[g0,hne]
 intro v2
 refine aU.xG ah [] rfl l.length (fun v k (_:Unit)=>⟨[(12,.int .i64 k),(11,.int .i64 l.length),(10,.vec 12 false (l.map av)),(3,.int .i64 0),(2,.ptr (2,v2) 12 0 0),(0,.vec 12 false (l.map av))],[((2,v2),some ⟨12,[M.z4],false,true⟩)]⟩) (fun _ _=>True) () trivial (fun v=>by simp) fun v k _ _ hk _=>?_
 have hw:=wrap64 (n:=(k:Int)+1) (by omega) (by omega)
 by_cases g:k<l.length
 ·have ho:=hf _ (List.getElem_mem g)
  have d1:=uy l[k]
  have d2:=sU (eu l[k])
  rw[oH ho] at d2
  generalize eo:l[k]=o at *
  simp[g,eo]
  intro v3
  refine aj.ret (by simpa using d1) ?_
  simp[g,eo]
  refine aj.ret (by simpa using d2) ?_
  simp[g,hw]
 ·simp[g]
  refine aj.ret (by simpa using c1) ?_
  simp
  refine aj.ret (by simpa using c2) ?_
  simp
  refine aj.ret (by simpa using c3) ?_
  simp[eu]
end Go.Proofs.YtfilonnphgnplaaGreatDoor.Pv
set_option maxRecDepth 100000
namespace Go.Proofs.YtfilonnphgnplaaGreatDoor.Pv
open Go Go.Tidy
abbrev xA:S:=⟨#[97]⟩
abbrev xB:S:=⟨#[98]⟩
abbrev zN:Ty:=.mk false true false false [] false [] [] []
abbrev arl:Ty:=.mk false false false true [] false [] [] []
abbrev xNo:Ty:=.mk false false false false [] false [] [] []
abbrev xO1:Ob:=.mk [xA,xB] [zN,zN] [false,true] zN
abbrev xO2:Ob:=.mk [xB] [zN] [true] zN
abbrev xO3:Ob:=.mk [xA] [xNo] [false] xNo
abbrev xO4:Ob:=.mk [xA,xB] [zN,zN] [false,false] zN
abbrev xT1:Ty:=.mk false false false false [] false [] [] [xO1]
abbrev xT2:Ty:=.mk false false false false [] false [] [] [xO2]
theorem aL4:oQ xT1=xT2:=by kernel_rfl
theorem aJF:ak xT1=true:=by kernel_rfl
theorem aN1:(ak zN&&jm zN (oQ zN))=true:=by kernel_rfl
theorem aMl:(ak xT1&&jm xT1 (oQ xT1))=false:=by kernel_rfl
theorem aNu:jO zN arl=.mk false true false true [] false [] [] []:=by kernel_rfl
theorem aNb:pq [xO1,xO3]=xO4:=by kernel_rfl
theorem aMN:bdT [xA,xB] 4 xT1:=by simp[bdT,aav,aaR,aaF,bdO]
theorem aKO:bdT [xA,xB] 4 zN:=by simp[bdT,aav,aaR,aaF,bdO]
theorem aNr:bdT [xA,xB] 4 arl:=by simp[bdT,aav,aaR,aaF,bdO]
theorem aNi:∀ o∈[xO1,xO3],bdO [xA,xB] 4 o:=by simp[bdT,aav,aaR,aaF,bdO]
theorem x1 (hL:Bf):Ret prog M.Lg [.agg (cT xT1)] (.tup [.agg (cT xT2),.int .i64 0]):=by
 have:=aG6 hL [xA,xB] (by simp) xT1 4 (by omega) aMN (by decide)
 rw[aJF,aL4] at this
 simpa using this
theorem x2 (hL:Bf):Ret prog M.IG [.agg (cT zN)] (.bool true):=by
 have:=aJ7 hL [xA,xB] (by simp) zN 4 (by omega) aKO (by decide)
 rw[aN1] at this
 exact this
theorem x3 (hL:Bf):Ret prog M.IG [.agg (cT xT1)] (.bool false):=by
 have:=aJ7 hL [xA,xB] (by simp) xT1 4 (by omega) aMN (by decide)
 rw[aMl] at this
 exact this
theorem x4:Ret prog M.Qh [.agg (cT zN),.agg (cT arl)] (.tup [.agg (cT (.mk false true false true [] false [] [] [])),.int .i64 0]):=by
 have:=aKL zN arl [xA,xB] 4 (by simp) (by omega) aKO aNr
 rw[show ak zN=true by kernel_rfl,show ak arl=true by kernel_rfl,aNu] at this
 simpa using this
theorem x5:Ret prog M.QD [.agg (cT xT2),.int .i64 0] (.tup [.agg (cT dn),.int .i64 0]):=aMf xT2 (by kernel_rfl) (.inr (.inr (by simp)))
theorem x6 (hL:Bf):Ret prog M.Jm [.vec 12 false ([xO1,xO3].map av)] (.tup [.agg (cO xO4),.int .i64 0]):=by
 have:=aKQ hL [xA,xB] 4 [xO1,xO3] (by simp) (by
  intro o ho
  simp only[List.mem_cons,List.not_mem_nil,or_false] at ho
  rcases ho with rfl|rfl<;>kernel_rfl) aNi (by omega) (by simp) (by simp)
 rw[aNb] at this
 exact this
set_option maxHeartbeats 8000000 in
theorem awv (hL:Bf):Ret prog M.ab4 [] (.bool true):=by
 refine Ret.go ah ax5 (by simp) fun hb w0 F0 hG=>?_
 have y1:=x1 hL
 have y2:=x2 hL
 have y3:=x3 hL
 have y4:=x4
 have y5:=x5
 have y6:=x6 hL
 simp
 intros
 have hs:sEq xB ⟨#[98]⟩=true:=by kernel_rfl
 refine aj.ret (by first|exact y1|(simp; exact y1)) ?_
 simp[hs]
 intros
 refine aj.ret (by first|exact y2|(simp; exact y2)) ?_
 simp[hs]
 intros
 refine aj.ret (by first|exact y3|(simp; exact y3)) ?_
 simp[hs]
 intros
 refine aj.ret (by first|exact y4|(simp; exact y4)) ?_
 simp[hs]
 intros
 refine aj.ret (by first|exact y5|(simp; exact y5)) ?_
 simp[hs,dn]
 intros
 refine aj.ret (by first|exact y6|(simp; exact y6)) ?_
 simp[hs]
end Go.Proofs.YtfilonnphgnplaaGreatDoor.Pv
set_option maxRecDepth 100000
namespace Go.Proofs.YtfilonnphgnplaaGreatDoor.Pv
open Go Go.Tidy
def ahi (t:Ty):List S:=wO t++List.replicate (20000-(wO t).length) ByteArray.empty
theorem asn {t:Ty} (h:NI t=true):(ahi t).length=20000∧szT t≤20000∧bdT (ahi t) (szT t) t:=by
 obtain⟨h1,h2,_⟩:=alf (of_decide_eq_true h)
 exact⟨by simp[ahi]; omega,h2,ahA t (fun n hn=>List.mem_append_left _ hn) (Nat.le_refl _)⟩
def tq (k:Int) (a b:Ty) (h:Int):List PV:=.int .i64 k::(cT a++(cT b++[.int .i64 h]))
set_option maxHeartbeats 4000000 in
theorem aJt (hL:Bf) (t b:Ty) (h:Int) (hf:NI t=true):Ret prog M.qP [.agg (tq 0 t b h)] (.bool true):=by
 obtain⟨h1,h2,h3⟩:=asn hf
 have hh:=alx t
 have c1:=aG6 hL (ahi t) (by omega) t _ (by omega) h3 (by omega)
 have c2:=aA8 (ahi t) t ⟨by omega,_,h3,by omega⟩
 generalize (if ak t then oQ t else d9)=r at *
 generalize (if ak t then (0:Int) else 1)=e at *
 have c3:=GY r r
 rw[jr rfl] at c3
 refine Ret.go ah Bg (by simp[tq]) fun hb w0 F0 hG=>?_
 simp[tq]
 intros
 refine aj.ret (by first|exact c1|(simp; exact c1)) ?_
 simp
 intros
 refine aj.ret (by first|exact c2|(simp; exact c2)) ?_
 simp
 intros
 refine aj.ret (by first|exact c3|(simp; exact c3)) ?_
 simp
set_option maxHeartbeats 4000000 in
theorem aJg (hL:Bf) (t b:Ty) (h:Int) (hf:NI t=true):Ret prog M.qP [.agg (tq 1 t b h)] (.bool true):=by
 obtain⟨h1,h2,h3⟩:=asn hf
 have hh:=alx t
 have c1:=aJ7 hL (ahi t) (by omega) t _ (by omega) h3 (by omega)
 have c2:=aGY (ahi t) t ⟨by omega,_,h3,by omega⟩
 generalize (ak t&&jm t (oQ t))=r at *
 refine Ret.go ah Bg (by simp[tq]) fun hb w0 F0 hG=>?_
 simp[tq]
 intros
 refine aH.ret (by first|exact c1|(simp; exact c1)) ?_
 simp
 intros
 refine aH.ret (by first|exact c2|(simp; exact c2)) ?_
 simp
end Go.Proofs.YtfilonnphgnplaaGreatDoor.Pv
