/- Part 17. -/
import Derived.Test.YtngjnfbngheccaaGreatDoorU16
set_option linter.unusedSimpArgs false
set_option linter.unusedVariables false
set_option maxRecDepth 100000
namespace Go.Proofs.YtngjnfbngheccaaGreatDoor.Pv
open Go Go.Tidy
structure alR:Prop where
 keys:∃ kt et,agz prog 175 kt et M.Vo M.ze
 del:al3 prog M.uF
theorem azT {NM:List S} {m:Nat} (hn:NM.length≤34359738368) (hm:0<m) {o:Ob} (h:bg o=true) (hb:bdO NM m o):nK (jk o) :=
 ⟨vG h,adF hn _ (vG h) (aDU hm hb)⟩
theorem aGN (hL:alR) (h:Int) (N:Ty→Ty) (NM:List S) (B:Nat) (hN:ae6 M.ji h N NM B) (hNf:∀ t,aj t=true→aj (N t)=true) (hNn:∀ t,aj t=true→never (N t)=never t) (hNb:∀ t m,bdT NM m t→bdT NM 4 (N t)) (h3:NM.length≤134217728) (hM:4*(NM.length+1)≤B)
 (l:List Ob) (hf:∀ o∈l,bg o=true) (hb4:∀ o∈l,bdO NM 4 o) (hl:l.length≤2147483648) (hB:4*l.length≤B):Ret prog M.ug [.vec 12 false (l.map au),.int .i64 h] (.vec 12 false ((nG N l).map au)):=by
 obtain⟨kt,et,hk⟩:=hL.keys
 have hd:∀ x∈(qH l).drop 3,x∈l:=fun x hx=>azV x (List.mem_of_mem_drop hx)
 have hpl:=aox l
 have key:=ani hL.del h l (gq N (yj ((qH l).drop 3))) (fun o=>bg o=true∧bdO NM 4 o) (by omega) (fun o h=>h.1) (fun o h=>azT (by omega) (by omega) h.1 h.2) (fun o h=>ayd h.1) (fun o ho=>⟨hf o ho,hb4 o ho⟩) (fun h4=>by
  have hne:(qH l).drop 3≠[]:=fun e=>by have:=congrArg List.length e; simp at this; omega
  have fo:=aej (fun o ho=>hf o (hd o ho)) hne
  have bo:=ap0 fun o ho=>hb4 o (hd o ho)
  refine⟨⟨Dn hNf hNn fo,YU hNb bo⟩,aI5 hk NM 4 _ (fun o ho=>hf o (hd o ho)) (fun o ho=>hb4 o (hd o ho)) (by simp; omega) (by simp; omega) h3,?_⟩
  refine arp h N NM B _ hN hNf hNn hNb (by omega) hM _ fo bo ?_
  simp; omega)
 exact key
def ajO (h:Nat):Nat:=131072*4 ^ (8-h)
theorem aKu {h:Nat} (hh:h<8):ajO h=4*ajO (h+1):=by
 unfold ajO
 have:8-h=(8-(h+1))+1:=by omega
 rw[this,Nat.pow_succ,← Nat.mul_assoc,Nat.mul_comm]
theorem aH2 (h:Nat):131072≤ajO h:=Nat.le_mul_of_pos_right _ (Nat.pow_pos (by omega))
theorem aOf {h:Nat} (hh:1≤h):ajO h≤2147483648:=by
 unfold ajO
 have h1:4 ^ (8-h)≤4 ^ 7:=Nat.pow_le_pow_right (by omega) (by omega)
 calc 131072*4 ^ (8-h)≤131072*4 ^ 7:=Nat.mul_le_mul (by omega) h1
  _≤2147483648:=by decide
theorem aO3 (hL:alR) (NM:List S) (hn:NM.length≤131071):∀ h:Nat,h≤8→ae6 M.ji h (bG h) NM (ajO h):=by
 intro h
 induction h with
 | zero =>
   intro _ t m ht hb hm
   rw[DZ]
   split
   ·rename_i hc
    refine amF _ t ?_
    simp only[Bool.or_eq_true,Bool.not_eq_true',List.isEmpty_eq_false_iff] at hc
    rcases hc with (hc|hc)|hc
    ·exact .inl hc
    ·exact .inr ⟨by simp,.inl hc⟩
    ·exact .inr ⟨by simp,.inr hc⟩
   ·rename_i hc
    simp only[Bool.or_eq_true,Bool.not_eq_true',not_or,Bool.not_eq_true,Bool.not_eq_false,List.isEmpty_iff,List.isEmpty_eq_false_iff,Decidable.not_not,ne_eq] at hc
    obtain⟨⟨e0,ea⟩,eo⟩:=hc
    have:=apm ((0:Nat):Int) t [] id id (by simp) (by simp) e0 (fun _=>⟨ea,eo⟩) (by rw[ea]; exact agK ht (by simp) (by simp) (by simp)) (by rw[eo]; simp) (by rw[ea]; simp) (by rw[ea]; simp) (by rw[eo]; simp) (by
     rw[eo]
     have:=ani hL.del (((0:Nat):Int)-1) [] (.mk [] [] [] aV) (fun o=>bg o=true∧bdO NM 4 o) (by simp) (fun o h=>h.1) (fun o h=>azT (by omega) (by omega) h.1 h.2) (fun o h=>ayd h.1) (by simp) (fun h4=>by simp[qH,iY,dN] at h4)
     simpa[qH,iY,dN] using this)
    rw[ea] at this
    exact this
 | succ h ih =>
   intro h8 t m ht hb hm
   have ih':=ih (by omega)
   have hcs:=aKu (h:=h) (by omega)
   have hc1:=aH2 (h+1)
   have hcg:4*(NM.length+1)≤ajO h:=by omega
   have hcl:=aOf (h:=h+1) (by omega)
   rw[vO]
   split
   ·rename_i hc
    exact amF _ t (.inl hc)
   ·rename_i hc
    obtain⟨t1,t2,t3,t4,t5,t6,t7,t8⟩:=bN ht
    have hbi:=uz.1 hb
    have eh:(((h+1:Nat):Int)-1)=(h:Int):=by omega
    have hNn:∀ t,aj t=true→never (bG h t)=never t:=fun t ht=>aag h t ht
    have hW:∀ o∈t.objects,Ret prog M.uO [.agg (cO o),.int .i64 h] (.agg (cO (gq (bG h) o))):=fun o ho =>
     arp h (bG h) NM (ajO h) m ih' (lu h) hNn (Jv h) (by omega) hcg o (t8 o ho) (hbi.2.2.2 o ho) (by omega)
    have hfm:∀ o∈t.objects.map (gq (bG h)),bg o=true:=fun o ho=>by
     obtain⟨x,hx,rfl⟩:=List.mem_map.1 ho
     exact Dn (lu h) hNn (t8 x hx)
    have hbm:∀ o∈t.objects.map (gq (bG h)),bdO NM 4 o:=fun o ho=>by
     obtain⟨x,hx,rfl⟩:=List.mem_map.1 ho
     exact YU (Jv h) (hbi.2.2.2 x hx)
    have hO:=aGN hL h (bG h) NM (ajO h) ih' (lu h) hNn (Jv h) (by omega) hcg (t.objects.map (gq (bG h))) hfm hbm (by simp; omega) (by simp; omega)
    refine apm ((h+1:Nat):Int) t _ (gq (bG h)) (bG h) (by omega) (by omega) (by simpa using hc) (fun h1=>by omega) ?_ (by omega) t6 (fun a ha=>?_) (fun o ho=>?_) ?_
    ·refine agK ht (by simpa using t6) (fun a ha=>?_) (aa8 (lu h) hNn hfm)
     obtain⟨x,hx,rfl⟩:=List.mem_map.1 ha
     obtain⟨x1,x2,x3,x4,x5⟩:=gY (t7 x hx)
     exact aai x1 x2 x3 (lu h _ x4) (by rw[Arr.Ze,hNn _ x4]; exact x5)
    ·rw[eh]
     exact ih' a.item m (gY (t7 a ha)).2.2.2.1 (hbi.2.2.1 a ha) (by omega)
    ·rw[eh]; exact hW o ho
    ·rw[eh]; exact hO
theorem aPw (hL:alR) (NM:List S) (hn:NM.length≤131071) (t:Ty) (m:Nat) (hm:m≤131072) (hb:bdT NM m t) (hh:aK t<1073741824) (ht:aj t=true):Ret prog M.Ko [.agg (cT t)] (.agg (cT (l9 t))) :=
 aIX t hh (fun h h8=>aO3 hL NM hn h h8 t m ht hb (Nat.le_trans hm (aH2 h))) fun h h8 =>
  ⟨⟨lu h t ht,adF (by omega) _ (lu h t ht) (Jv h t m hb)⟩,by have:=adn h t 8 (.inr h8); omega⟩
theorem aMx {NM:List S} {m:Nat} {t:Ty} (hb:bdT NM m t):bdT NM 4 (l9 t):=by
 obtain⟨k,_,e⟩:=atA t
 rw[e]; exact Jv k t m hb
theorem aFd (hL:alR) (NM:List S) (hn:NM.length≤131071) (t:Ty) (m:Nat) (hm:m≤131072) (hb:bdT NM m t) (hh:aK t<1073741824):Ret prog M.y9 [.agg (cT t)] (.tup [.agg (cT (if aj t then l9 t else aV)),.int .i64 (if aj t then 0 else 1)]) :=
 aJn t (aPw hL NM hn t m hm hb hh) fun ht=>abq NM 4 (by omega) (by omega) _ (aGI ht) (aMx hb)
theorem aNU (a b:Ty) (NM:List S) (m:Nat) (hn:NM.length≤131071) (hm:2*m≤8589934592) (hba:bdT NM m a) (hbb:bdT NM m b):Ret prog M.JF [.agg (cT a),.agg (cT b)] (.tup [.agg (cT (if aj a&&aj b then jf a b else aV)),.int .i64 (if aj a&&aj b then 0 else 1)]) :=
 aKB a b NM m hm hba hbb fun ha hb=>abq NM (m+m) (by omega) (by omega) _ (ZM a b ha hb) (aEs hba hbb)
end Go.Proofs.YtngjnfbngheccaaGreatDoor.Pv
set_option maxRecDepth 100000
namespace Go.Proofs.YtngjnfbngheccaaGreatDoor.Pv
open Go Go.Tidy
end Go.Proofs.YtngjnfbngheccaaGreatDoor.Pv
set_option maxRecDepth 100000
namespace Go.Proofs.YtngjnfbngheccaaGreatDoor.Pv
open Go Go.Tidy
abbrev xA:S:=⟨#[97]⟩
abbrev xB:S:=⟨#[98]⟩
abbrev ad9:Ty:=.mk false true false false [] false [] [] []
abbrev av1:Ty:=.mk false false false true [] false [] [] []
abbrev xO1:Ob:=.mk [xA,xB] [ad9,ad9] [false,true] ad9
abbrev xO2:Ob:=.mk [xB] [ad9] [true] ad9
abbrev xT1:Ty:=.mk false false false false [] false [] [] [xO1]
abbrev xT2:Ty:=.mk false false false false [] false [] [] [xO2]
theorem aPo:l9 xT1=xT2:=by kernel_rfl
theorem aNg:aj xT1=true:=by kernel_rfl
theorem aQx:jf ad9 av1=.mk false true false true [] false [] [] []:=by kernel_rfl
theorem aRd:bdT [xA,xB] 4 xT1:=by simp[bdT,afp,afJ,afx,bdO]
theorem aQi:bdT [xA,xB] 4 ad9:=by simp[bdT,afp,afJ,afx,bdO]
theorem aQw:bdT [xA,xB] 4 av1:=by simp[bdT,afp,afJ,afx,bdO]
theorem x1 (hL:alR):Ret prog M.y9 [.agg (cT xT1)] (.tup [.agg (cT xT2),.int .i64 0]):=by
 have:=aFd hL [xA,xB] (by simp) xT1 4 (by omega) aRd (by decide)
 rw[aNg,aPo] at this
 simpa using this
theorem x4:Ret prog M.JF [.agg (cT ad9),.agg (cT av1)] (.tup [.agg (cT (.mk false true false true [] false [] [] [])),.int .i64 0]):=by
 have:=aNU ad9 av1 [xA,xB] 4 (by simp) (by omega) aQi aQw
 rw[show aj ad9=true by kernel_rfl,show aj av1=true by kernel_rfl,aQx] at this
 simpa using this
end Go.Proofs.YtngjnfbngheccaaGreatDoor.Pv
set_option maxRecDepth 100000
namespace Go.Proofs.YtngjnfbngheccaaGreatDoor.Pv
open Go Go.Tidy
end Go.Proofs.YtngjnfbngheccaaGreatDoor.Pv
