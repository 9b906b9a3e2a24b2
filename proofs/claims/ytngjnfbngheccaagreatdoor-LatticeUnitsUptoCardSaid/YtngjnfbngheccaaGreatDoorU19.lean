/- Part 19. -/
import Derived.Test.YtngjnfbngheccaaGreatDoorU18
set_option linter.unusedSimpArgs false
set_option linter.unusedVariables false
namespace Go.Proofs.YtngjnfbngheccaaGreatDoor.Pv
open Go
def cl (f k:Nat) (m:MC) (nt:Nat) (rs:List RV):Option (MC × Nat × List RV):=bif Nat.beq f k then some (m.erase,nt,rs) else none
theorem bQ {f k nt:Nat} {m:MC} {rs:List RV} (hk:av prog k=some (m.erase,nt,rs)) {R:MC × Nat × List RV} (h:cl f k m nt rs=some R):av prog f=some R:=by
 unfold cl at h
 cases e:Nat.beq f k with
 | true=>rw[e] at h; rw[Nat.eq_of_beq_eq_true e,hk]; exact h
 | false=>rw[e] at h; cases h
theorem cu {f:Nat} {c:Bool} {x y:Option (MC × Nat × List RV)} {R:MC × Nat × List RV} (hx:x=some R→av prog f=some R) (hy:y=some R→av prog f=some R) (h:(bif c then x else y)=some R):av prog f=some R:=by
 cases c with
 | true=>exact hx h
 | false=>exact hy h
def tab (f:Nat):Option (MC × Nat × List RV):=(bif Nat.blt f M.Ay then (bif Nat.blt f M.xq then (bif Nat.blt f M.mG then (bif Nat.blt f M.UY then (bif Nat.blt f M.qG then (bif Nat.blt f M.yJ then (cl f M.ni M.abz 92 M.aaP) else (bif Nat.blt f M.u6 then (cl f M.yJ M.akR 15 M.aiO) else (cl f M.u6 M.aj8 16 M.aiN))) else (bif Nat.blt f M.kr then (cl f M.qG M.auh 14 M.ar2) else (bif Nat.blt f M.Zn then (cl f M.kr M.aoW 10 M.amJ) else (cl f M.Zn M.akj 14 M.ai8)))) else (bif Nat.blt f M.uZ then (bif Nat.blt f M.Jy then (cl f M.UY M.ai1 96 M.ahE) else (bif Nat.blt f M.l6 then (cl f M.Jy M.aix 16 M.ahx) else (cl f M.l6 M.ahy 15 M.agb))) else (bif Nat.blt f M.ko then (cl f M.uZ M.akp 15 M.aiS) else (bif Nat.blt f M.qZ then (cl f M.ko M.ah1 11 M.afR) else (cl f M.qZ M.ahO 19 M.afS))))) else (bif Nat.blt f M.jK then (bif Nat.blt f M.L8 then (bif Nat.blt f M.Og then (cl f M.mG M.akM 62 M.ai6) else (bif Nat.blt f M.Y9 then (cl f M.Og M.aks 51 M.aiB) else (cl f M.Y9 M.ak4 61 M.ajj))) else (bif Nat.blt f M.wz then (cl f M.L8 M.agc 40 M.aeH) else (bif Nat.blt f M.UG then (cl f M.wz M.ajf 27 M.ahT) else (cl f M.UG M.aiy 2 M.ahG)))) else (bif Nat.blt f M.jG then (bif Nat.blt f M.JF then (cl f M.jK M.ak9 25 M.aiP) else (bif Nat.blt f M.y9 then (cl f M.JF M.atF 20 M.aro) else (cl f M.y9 M.ara 11 M.aoE))) else (bif Nat.blt f M.AU then (bif Nat.blt f M.xu then (cl f M.jG M.aow 109 M.amM) else (cl f M.xu M.af7 27 M.aez)) else (bif Nat.blt f M.JM then (cl f M.AU M.agd 2 M.aeR) else (cl f M.JM M.aiv 27 M.ah4)))))) else (bif Nat.blt f M.yx then (bif Nat.blt f M.Uj then (bif Nat.blt f M.zQ then (bif Nat.blt f M.OQ then (cl f M.xq M.agf 26 M.aem) else (bif Nat.blt f M.Oz then (cl f M.OQ M.ala 27 M.aiw) else (cl f M.Oz M.akb 27 M.aiW))) else (bif Nat.blt f M.yc then (cl f M.zQ M.ai5 37 M.ahm) else (bif Nat.blt f M.qg then (cl f M.yc M.ano 43 M.akn) else (cl f M.qg M.am9 38 M.akm)))) else (bif Nat.blt f M.qO then (bif Nat.blt f M.agA then (cl f M.Uj M.arV 5 M.apy) else (bif Nat.blt f M.wH then (cl f M.agA M.av9 52 M.arw) else (cl f M.wH M.aoC 9 M.anf))) else (bif Nat.blt f M.qC then (bif Nat.blt f M.qj then (cl f M.qO M.Yh 94 M.UZ) else (cl f M.qj M.Ru 56 M.O9)) else (bif Nat.blt f M.qh then (cl f M.qC M.U6 64 M.QO) else (cl f M.qh M.Uf 149 M.Pz))))) else (bif Nat.blt f M.Ko then (bif Nat.blt f M.tQ then (bif Nat.blt f M.zM then (cl f M.yx M.ac7 10 M.abO) else (bif Nat.blt f M.yu then (cl f M.zM M.ae0 59 M.ac9) else (cl f M.yu M.acV 17 M.acu))) else (bif Nat.blt f M.qJ then (cl f M.tQ M.acw 52 M.aaU) else (bif Nat.blt f M.jc then (cl f M.qJ M.aaM 66 M.ZQ) else (cl f M.jc M.aiY 82 M.ah8)))) else (bif Nat.blt f M.jQ then (bif Nat.blt f M.iG then (cl f M.Ko M.arH 25 M.apx) else (bif Nat.blt f M.jH then (cl f M.iG M.QY 128 M.Qd) else (cl f M.jH M.Mg 72 M.Lu))) else (bif Nat.blt f M.Dw then (bif Nat.blt f M.jI then (cl f M.jQ M.P9 103 M.OO) else (cl f M.jI M.Nu 50 M.Lg)) else (bif Nat.blt f M.ou then (cl f M.Dw M.alf 17 M.aiV) else (cl f M.ou M.am1 2 M.alp))))))) else (bif Nat.blt f M.pz then (bif Nat.blt f M.IQ then (bif Nat.blt f M.za then (bif Nat.blt f M.Ig then (bif Nat.blt f M.uY then (cl f M.Ay M.afV 9 M.aeW) else (bif Nat.blt f M.zu then (cl f M.uY M.aeB 169 M.ac4) else (cl f M.zu M.an9 10 M.amR))) else (bif Nat.blt f M.aef then (cl f M.Ig M.amO 13 M.akW) else (bif Nat.blt f M.Ku then (cl f M.aef M.ar6 78 M.apl) else (cl f M.Ku M.aru 26 M.aol)))) else (bif Nat.blt f M.Jf then (bif Nat.blt f M.zO then (cl f M.za M.arb 52 M.aoa) else (bif Nat.blt f M.uW then (cl f M.zO M.aaX 26 M.ZW) else (cl f M.uW M.aeP 45 M.ac0))) else (bif Nat.blt f M.VW then (bif Nat.blt f M.Mq then (cl f M.Jf M.anz 14 M.ak0) else (cl f M.Mq M.apf 29 M.anc)) else (bif Nat.blt f M.qp then (cl f M.VW M.aos 37 M.anx) else (cl f M.qp M.ZL 36 M.ZE))))) else (bif Nat.blt f M.Eu then (bif Nat.blt f M.jF then (bif Nat.blt f M.uH then (cl f M.IQ M.amK 62 M.akg) else (bif Nat.blt f M.kU then (cl f M.uH M.acW 36 M.abM) else (cl f M.kU M.aby 11 M.aa2))) else (bif Nat.blt f M.ji then (cl f M.jF M.Zx 61 M.Yu) else (bif Nat.blt f M.mH then (cl f M.ji M.anw 83 M.Oo) else (cl f M.mH M.akX 50 M.aiZ)))) else (bif Nat.blt f M.zo then (bif Nat.blt f M.zl then (cl f M.Eu M.ag6 29 M.afY) else (bif Nat.blt f M.ad7 then (cl f M.zl M.awv 43 M.ar0) else (cl f M.ad7 M.arJ 26 M.aop))) else (bif Nat.blt f M.qB then (bif Nat.blt f M.r9 then (cl f M.zo M.apU 18 M.amS) else (cl f M.r9 M.ank 11 M.aln)) else (bif Nat.blt f M.Yj then (cl f M.qB M.UM 39 M.Sw) else (cl f M.Yj M.ao9 17 M.am7)))))) else (bif Nat.blt f M.Ou then (bif Nat.blt f M.OU then (bif Nat.blt f M.uo then (bif Nat.blt f M.qX then (cl f M.pz M.Zw 36 M.WH) else (bif Nat.blt f M.rU then (cl f M.qX M.YH 39 M.UO) else (cl f M.rU M.YC 39 M.UH))) else (bif Nat.blt f M.sJ then (cl f M.uo M.af4 17 M.aeJ) else (bif Nat.blt f M.Sj then (cl f M.sJ M.aci 36 M.aa1) else (cl f M.Sj M.anp 25 M.aky)))) else (bif Nat.blt f M.w9 then (bif Nat.blt f M.sU then (cl f M.OU M.akJ 25 M.aiU) else (bif Nat.blt f M.uG then (cl f M.sU M.abk 27 M.aaY) else (cl f M.uG M.acZ 36 M.abj))) else (bif Nat.blt f M.agJ then (bif Nat.blt f M.jY then (cl f M.w9 M.af8 27 M.ae4) else (cl f M.jY M.JG 134 M.GQ)) else (bif Nat.blt f M.ug then (cl f M.agJ M.av6 8 M.arL) else (cl f M.ug M.alr 25 M.aja))))) else (bif Nat.blt f M.ng then (bif Nat.blt f M.pq then (bif Nat.blt f M.Iy then (cl f M.Ou M.alq 14 M.aiE) else (bif Nat.blt f M.vW then (cl f M.Iy M.anh 23 M.akV) else (cl f M.vW M.abB 20 M.aa0))) else (bif Nat.blt f M.u7 then (cl f M.pq M.aeV 6 M.acY) else (bif Nat.blt f M.xg then (cl f M.u7 M.aeZ 27 M.ac3) else (cl f M.xg M.afU 27 M.aeG)))) else (bif Nat.blt f M.D9 then (bif Nat.blt f M.abP then (cl f M.ng M.zx 49 M.y8) else (bif Nat.blt f M.oW then (cl f M.abP M.apL 25 M.amH) else (cl f M.oW M.OZ 9 M.NG))) else (bif Nat.blt f M.qc then (bif Nat.blt f M.qM then (cl f M.D9 M.aha 44 M.af6) else (cl f M.qM M.X9 66 M.UQ)) else (bif Nat.blt f M.jC then (cl f M.qc M.RZ 63 M.Qc) else (cl f M.jC M.Dh 53 M.AY))))))))
theorem aLQ (f:Nat) (m:MC) (nt:Nat) (rs:List RV) (h:tab f=some (m,nt,rs)):av prog f=some (m,nt,rs):=(cu (cu (cu (cu (cu (cu (bQ amt) (cu (bQ akQ) (bQ aj6))) (cu (bQ avW) (cu (bQ aEK) (bQ axh)))) (cu (cu (bQ auf) (cu (bQ auD) (bQ ahQ))) (cu (bQ akC) (cu (bQ ahR) (bQ aau))))) (cu (cu (cu (bQ akI) (cu (bQ ax6) (bQ ayB))) (cu (bQ aqD) (cu (bQ atT) (bQ avR)))) (cu (cu (bQ akf) (cu (bQ au9) (bQ arO))) (cu (cu (bQ ao3) (bQ afW)) (cu (bQ af0) (bQ aiI)))))) (cu (cu (cu (cu (bQ afX) (cu (bQ alg) (bQ aj4))) (cu (bQ aip) (cu (bQ aC2) (bQ amL)))) (cu (cu (bQ ar7) (cu (bQ aJl) (bQ aoh))) (cu (cu (bQ ahL) (bQ afE)) (cu (bQ ags) (bQ afI))))) (cu (cu (cu (bQ ac1) (cu (bQ aeM) (bQ ac6))) (cu (bQ abU) (cu (bQ aaZ) (bQ aiz)))) (cu (cu (bQ arq) (cu (bQ Ak) (bQ NU))) (cu (cu (bQ Qg) (bQ Ng)) (cu (bQ akE) (bQ anl))))))) (cu (cu (cu (cu (cu (bQ af2) (cu (bQ apT) (bQ aof))) (cu (bQ aAw) (cu (bQ aGY) (bQ asb)))) (cu (cu (bQ arD) (cu (bQ ak6) (bQ aeF))) (cu (cu (bQ ant) (bQ aoR)) (cu (bQ aoT) (bQ ZU))))) (cu (cu (cu (bQ am8) (cu (bQ ac2) (bQ al2))) (cu (bQ ail) (cu (bQ afQ) (bQ ak8)))) (cu (cu (bQ asV) (cu (bQ avS) (bQ aG7))) (cu (cu (bQ aoc) (bQ amT)) (cu (bQ UJ) (bQ ao6)))))) (cu (cu (cu (cu (bQ Zy) (cu (bQ VO) (bQ Yt))) (cu (bQ af5) (cu (bQ abT) (bQ am3)))) (cu (cu (bQ akS) (cu (bQ abg) (bQ ac5))) (cu (cu (bQ af9) (bQ aco)) (cu (bQ aJQ) (bQ ake))))) (cu (cu (cu (bQ alo) (cu (bQ anv) (bQ abh))) (cu (bQ aeX) (cu (bQ aew) (bQ afT)))) (cu (cu (bQ VG) (cu (bQ aGC) (bQ OW))) (cu (cu (bQ ahl) (bQ Yw)) (cu (bQ R9) (bQ Cu)))))))) h
def X0:Ext:=fun f args=>match args with
 | [.vec e _ xs]=>if (f == M.l7&&e == 1||f == M.FU&&e == 2||f == M.JO&&e == 11||f == M.zK&&e == 12||f == M.Gy&&e == 1||f == M.Fu&&e == 9)&&Nat.ble xs.length 1000 then some (.own e xs) else none
 | _=>none
theorem aQg:ajs prog X0:=fun f args=>by
 have key:∀ r,X0 f args=some r→∃ e fl xs,args=[.vec e fl xs]∧r=.own e xs∧gU prog f [.vec e fl xs] e xs:=fun r h=>by
  unfold X0 at h
  split at h
  ·rename_i e fl xs
   split at h
   ·rename_i hc
    cases h
    refine⟨e,fl,xs,rfl,rfl,?_⟩
    simp only[Bool.and_eq_true,Bool.or_eq_true,beq_iff_eq] at hc
    obtain⟨hc,hl⟩:=hc
    have hl:xs.length≤68719476736:=Nat.le_trans (Nat.le_of_ble_eq_true hl) (by decide)
    rcases hc with ((((⟨rfl,rfl⟩|⟨rfl,rfl⟩)|⟨rfl,rfl⟩)|⟨rfl,rfl⟩)|⟨rfl,rfl⟩)|⟨rfl,rfl⟩
    ·exact vg fl xs hl
    ·exact ac8 fl xs hl
    ·exact aeu fl xs hl
    ·exact Xk fl xs hl
    ·exact acU fl xs hl
    ·exact ada fl xs hl
   ·cases h
  ·cases h
 refine⟨fun r h=>?_,fun esz xs h=>?_⟩
 ·obtain⟨_,_,_,_,hr,_⟩:=key _ h
  cases hr
 ·obtain⟨e,fl,ys,ha,hr,hk⟩:=key _ h
  cases hr
  rw[ha]; exact hk
def md (f:Nat):Bool:=[M.qO,M.qj,M.qC,M.qh,M.iG,M.jH,M.jQ,M.jI,M.qp,M.uH,M.sJ,M.sU,M.uG,M.w9,M.u7,M.xg].contains f
def isTrue (r:Option Res):Bool:=match r with
 | some (.val (.bool b))=>b
 | _=>false
set_option maxRecDepth 1000000 in
theorem aLO:isTrue (ayZ tab (ev X0 tab md 1000) M.ni [])=true:=by kernel_rfl
theorem aLj:Ret prog M.ni [] (.bool true):=by
 have h:=aLO
 have hok:=(aH6 aLQ (aQe (mode:=md) aQg ah aLQ 1000)) M.ni []
 generalize ayZ tab (ev X0 tab md 1000) M.ni []=r at h hok
 match r,h with
 | some (.val (.bool true)),_=>exact hok.1 _ rfl
end Go.Proofs.YtngjnfbngheccaaGreatDoor.Pv
namespace Go.Proofs.YtngjnfbngheccaaGreatDoor.Pv
open Go Go.Tidy
theorem as0 (x0:Go.Tidy.Ty) (hs:wtT x0≤1048576):Ret prog M.Qm [.agg (cT x0)] (.bool true):=alv aLj aQv x0 hs
end Go.Proofs.YtngjnfbngheccaaGreatDoor.Pv
