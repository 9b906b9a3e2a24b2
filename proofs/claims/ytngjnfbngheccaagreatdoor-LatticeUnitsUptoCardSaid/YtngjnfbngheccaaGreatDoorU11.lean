/- Part 11. -/
import Derived.Test.YtngjnfbngheccaaGreatDoorU10
import Derived.Test.YtngjnfbngheccaaGreatDoorProg
import Derived.Test.YtngjnfbngheccaaGreatDoorU6
set_option linter.unusedSimpArgs false
set_option linter.unusedVariables false
namespace Go.Proofs.YtngjnfbngheccaaGreatDoor.Pv
open Go
set_option maxRecDepth 1000000
noncomputable abbrev prog:Program:=Tryz.prog
theorem ah:prog.follows .mixedOrders=true:=by kernel_rfl
theorem amq:av prog M.Qm=some (M.ame.erase,55,M.alk):=by kernel_rfl
theorem amt:av prog M.ni=some (M.abz.erase,92,M.aaP):=by kernel_rfl
theorem axO:av prog M.mQ=some (M.ayH.erase,37,M.awp):=by kernel_rfl
theorem aFG:av prog M.ah3=some (M.aDS.erase,10,M.aC7):=by kernel_rfl
theorem akQ:av prog M.yJ=some (M.akR.erase,15,M.aiO):=by kernel_rfl
theorem aj6:av prog M.u6=some (M.aj8.erase,16,M.aiN):=by kernel_rfl
theorem avW:av prog M.qG=some (M.auh.erase,14,M.ar2):=by kernel_rfl
theorem aEK:av prog M.kr=some (M.aoW.erase,10,M.amJ):=by kernel_rfl
theorem axh:av prog M.Zn=some (M.akj.erase,14,M.ai8):=by kernel_rfl
theorem auf:av prog M.UY=some (M.ai1.erase,96,M.ahE):=by kernel_rfl
theorem auD:av prog M.Jy=some (M.aix.erase,16,M.ahx):=by kernel_rfl
theorem aEo:av prog M.abY=some (M.aGd.erase,44,M.aCo):=by kernel_rfl
theorem aDJ:av prog M.ab1=some (M.aDw.erase,30,M.aBz):=by kernel_rfl
theorem aBN:av prog M.afu=some (M.aA3.erase,57,M.ayE):=by kernel_rfl
theorem axq:av prog M.adZ=some (M.ayP.erase,70,M.awn):=by kernel_rfl
theorem avn:av prog M.abb=some (M.auZ.erase,16,M.asY):=by kernel_rfl
theorem aEb:av prog M.ahc=some (M.aEC.erase,21,M.aAd):=by kernel_rfl
theorem ahQ:av prog M.l6=some (M.ahy.erase,15,M.agb):=by kernel_rfl
theorem akC:av prog M.uZ=some (M.akp.erase,15,M.aiS):=by kernel_rfl
theorem ahR:av prog M.ko=some (M.ah1.erase,11,M.afR):=by kernel_rfl
theorem aau:av prog M.qZ=some (M.ahO.erase,19,M.afS):=by kernel_rfl
theorem akI:av prog M.mG=some (M.akM.erase,62,M.ai6):=by kernel_rfl
theorem ax6:av prog M.Og=some (M.aks.erase,51,M.aiB):=by kernel_rfl
theorem ayB:av prog M.Y9=some (M.ak4.erase,61,M.ajj):=by kernel_rfl
theorem aqD:av prog M.L8=some (M.agc.erase,40,M.aeH):=by kernel_rfl
theorem akO:av prog M.l7=some (M.akD.erase,8,M.ajT):=by kernel_rfl
theorem atT:av prog M.wz=some (M.ajf.erase,27,M.ahT):=by kernel_rfl
theorem avR:av prog M.UG=some (M.aiy.erase,2,M.ahG):=by kernel_rfl
theorem aHB:av prog M.ajQ=some (M.aHI.erase,17,M.aFO):=by kernel_rfl
theorem aBn:av prog M.aan=some (M.aBK.erase,9,M.axa):=by kernel_rfl
theorem UF:av prog M.nu=some (M.atH.erase,42,M.ata):=by kernel_rfl
theorem aCU:av prog M.Tq=some (M.aA1.erase,10,M.axx):=by kernel_rfl
theorem awy:av prog M.MH=some (M.aw5.erase,61,M.avH):=by kernel_rfl
theorem alc:av prog M.jq=some (M.ayV.erase,112,M.Vk):=by kernel_rfl
theorem aCr:av prog M.rZ=some (M.aBb.erase,87,M.akt):=by kernel_rfl
theorem akf:av prog M.jK=some (M.ak9.erase,25,M.aiP):=by kernel_rfl
theorem au9:av prog M.JF=some (M.atF.erase,20,M.aro):=by kernel_rfl
theorem arO:av prog M.y9=some (M.ara.erase,11,M.aoE):=by kernel_rfl
theorem ao3:av prog M.jG=some (M.aow.erase,109,M.amM):=by kernel_rfl
theorem afW:av prog M.xu=some (M.af7.erase,27,M.aez):=by kernel_rfl
theorem af0:av prog M.AU=some (M.agd.erase,2,M.aeR):=by kernel_rfl
theorem aiI:av prog M.JM=some (M.aiv.erase,27,M.ah4):=by kernel_rfl
theorem afX:av prog M.xq=some (M.agf.erase,26,M.aem):=by kernel_rfl
theorem alg:av prog M.OQ=some (M.ala.erase,27,M.aiw):=by kernel_rfl
theorem aj4:av prog M.Oz=some (M.akb.erase,27,M.aiW):=by kernel_rfl
theorem aip:av prog M.zQ=some (M.ai5.erase,37,M.ahm):=by kernel_rfl
theorem aC2:av prog M.yc=some (M.ano.erase,43,M.akn):=by kernel_rfl
theorem amL:av prog M.qg=some (M.am9.erase,38,M.akm):=by kernel_rfl
theorem ar7:av prog M.Uj=some (M.arV.erase,5,M.apy):=by kernel_rfl
theorem aJl:av prog M.agA=some (M.av9.erase,52,M.arw):=by kernel_rfl
theorem agR:av prog M.Bg=some (M.agh.erase,19,M.afF):=by kernel_rfl
theorem aoh:av prog M.wH=some (M.aoC.erase,9,M.anf):=by kernel_rfl
theorem ahL:av prog M.qO=some (M.Yh.erase,94,M.UZ):=by kernel_rfl
theorem afE:av prog M.qj=some (M.Ru.erase,56,M.O9):=by kernel_rfl
theorem ags:av prog M.qC=some (M.U6.erase,64,M.QO):=by kernel_rfl
theorem afI:av prog M.qh=some (M.Uf.erase,149,M.Pz):=by kernel_rfl
theorem aAs:av prog M.afv=some (M.aAR.erase,61,M.adB):=by kernel_rfl
theorem aw8:av prog M.adU=some (M.aw0.erase,44,M.auU):=by kernel_rfl
theorem aCS:av prog M.aah=some (M.aB5.erase,11,M.aw7):=by kernel_rfl
theorem aC1:av prog M.Iq=some (M.aBQ.erase,2,M.awE):=by kernel_rfl
theorem ayy:av prog M.su=some (M.ay7.erase,38,M.avh):=by kernel_rfl
theorem auq:av prog M.oU=some (M.avd.erase,43,M.asE):=by kernel_rfl
theorem aEJ:av prog M.abV=some (M.aGx.erase,9,M.aAC):=by kernel_rfl
theorem aGB:av prog M.acf=some (M.aDY.erase,18,M.aC0):=by kernel_rfl
theorem ac1:av prog M.yx=some (M.ac7.erase,10,M.abO):=by kernel_rfl
theorem aeM:av prog M.zM=some (M.ae0.erase,59,M.ac9):=by kernel_rfl
theorem ac6:av prog M.yu=some (M.acV.erase,17,M.acu):=by kernel_rfl
theorem abU:av prog M.tQ=some (M.acw.erase,52,M.aaU):=by kernel_rfl
theorem aaZ:av prog M.qJ=some (M.aaM.erase,66,M.ZQ):=by kernel_rfl
theorem aiz:av prog M.jc=some (M.aiY.erase,82,M.ah8):=by kernel_rfl
theorem arq:av prog M.Ko=some (M.arH.erase,25,M.apx):=by kernel_rfl
theorem anX:av prog M.FU=some (M.anQ.erase,8,M.amk):=by kernel_rfl
theorem apM:av prog M.JO=some (M.aph.erase,8,M.an5):=by kernel_rfl
theorem aot:av prog M.zK=some (M.apn.erase,8,M.anL):=by kernel_rfl
theorem an0:av prog M.Gy=some (M.anZ.erase,8,M.alG):=by kernel_rfl
theorem an1:av prog M.Fu=some (M.anE.erase,8,M.ami):=by kernel_rfl
theorem Ak:av prog M.iG=some (M.QY.erase,128,M.Qd):=by kernel_rfl
theorem NU:av prog M.jH=some (M.Mg.erase,72,M.Lu):=by kernel_rfl
theorem Qg:av prog M.jQ=some (M.P9.erase,103,M.OO):=by kernel_rfl
theorem Ng:av prog M.jI=some (M.Nu.erase,50,M.Lg):=by kernel_rfl
theorem akE:av prog M.Dw=some (M.alf.erase,17,M.aiV):=by kernel_rfl
theorem aC9:av prog M.ZY=some (M.aAM.erase,23,M.ays):=by kernel_rfl
theorem aCY:av prog M.aaq=some (M.aBJ.erase,29,M.ayL):=by kernel_rfl
theorem anl:av prog M.ou=some (M.am1.erase,2,M.alp):=by kernel_rfl
theorem af2:av prog M.Ay=some (M.afV.erase,9,M.aeW):=by kernel_rfl
theorem apT:av prog M.uY=some (M.aeB.erase,169,M.ac4):=by kernel_rfl
theorem aof:av prog M.zu=some (M.an9.erase,10,M.amR):=by kernel_rfl
theorem aAw:av prog M.Ig=some (M.amO.erase,13,M.akW):=by kernel_rfl
theorem aGY:av prog M.aef=some (M.ar6.erase,78,M.apl):=by kernel_rfl
theorem asb:av prog M.Ku=some (M.aru.erase,26,M.aol):=by kernel_rfl
theorem arD:av prog M.za=some (M.arb.erase,52,M.aoa):=by kernel_rfl
theorem ak6:av prog M.zO=some (M.aaX.erase,26,M.ZW):=by kernel_rfl
theorem ad5:av prog M.oO=some (M.adR.erase,54,M.acS):=by kernel_rfl
theorem aCF:av prog M.xK=some (M.aAn.erase,49,M.awF):=by kernel_rfl
theorem aE1:av prog M.ab2=some (M.aFS.erase,72,M.az9):=by kernel_rfl
theorem aHN:av prog M.ajY=some (M.aHE.erase,50,M.aF2):=by kernel_rfl
theorem aB2:av prog M.afP=some (M.aCZ.erase,69,M.awW):=by kernel_rfl
theorem aHy:av prog M.ajH=some (M.aHk.erase,76,M.aDV):=by kernel_rfl
theorem aGX:av prog M.vo=some (M.aHq.erase,45,M.aEX):=by kernel_rfl
theorem aeF:av prog M.uW=some (M.aeP.erase,45,M.ac0):=by kernel_rfl
theorem ant:av prog M.Jf=some (M.anz.erase,14,M.ak0):=by kernel_rfl
theorem aoR:av prog M.Mq=some (M.apf.erase,29,M.anc):=by kernel_rfl
theorem aAe:av prog M.aap=some (M.aA8.erase,10,M.awT):=by kernel_rfl
theorem aoT:av prog M.VW=some (M.aos.erase,37,M.anx):=by kernel_rfl
theorem ZU:av prog M.qp=some (M.ZL.erase,36,M.ZE):=by kernel_rfl
theorem am8:av prog M.IQ=some (M.amK.erase,62,M.akg):=by kernel_rfl
theorem ac2:av prog M.uH=some (M.acW.erase,36,M.abM):=by kernel_rfl
theorem al2:av prog M.kU=some (M.aby.erase,11,M.aa2):=by kernel_rfl
theorem ail:av prog M.jF=some (M.Zx.erase,61,M.Yu):=by kernel_rfl
theorem afQ:av prog M.ji=some (M.anw.erase,83,M.Oo):=by kernel_rfl
theorem ak8:av prog M.mH=some (M.akX.erase,50,M.aiZ):=by kernel_rfl
theorem aD5:av prog M.ql=some (M.aGf.erase,57,M.aCE):=by kernel_rfl
theorem ah7:av prog M.wu=some (M.ahb.erase,9,M.agp):=by kernel_rfl
theorem asV:av prog M.Eu=some (M.ag6.erase,29,M.afY):=by kernel_rfl
theorem avS:av prog M.zl=some (M.awv.erase,43,M.ar0):=by kernel_rfl
theorem avt:av prog M.acg=some (M.avA.erase,27,M.as2):=by kernel_rfl
theorem avu:av prog M.abl=some (M.awc.erase,26,M.asJ):=by kernel_rfl
theorem aG7:av prog M.ad7=some (M.arJ.erase,26,M.aop):=by kernel_rfl
theorem aoc:av prog M.zo=some (M.apU.erase,18,M.amS):=by kernel_rfl
theorem amT:av prog M.r9=some (M.ank.erase,11,M.aln):=by kernel_rfl
theorem UJ:av prog M.qB=some (M.UM.erase,39,M.Sw):=by kernel_rfl
theorem ao6:av prog M.Yj=some (M.ao9.erase,17,M.am7):=by kernel_rfl
theorem Zy:av prog M.pz=some (M.Zw.erase,36,M.WH):=by kernel_rfl
theorem VO:av prog M.qX=some (M.YH.erase,39,M.UO):=by kernel_rfl
theorem aHs:av prog M.ajR=some (M.aHS.erase,22,M.aGq):=by kernel_rfl
theorem Yt:av prog M.rU=some (M.YC.erase,39,M.UH):=by kernel_rfl
theorem aHO:av prog M.ajE=some (M.aG8.erase,27,M.aGm):=by kernel_rfl
theorem aGH:av prog M.zH=some (M.aEV.erase,6,M.aCI):=by kernel_rfl
theorem aJD:av prog M.agw=some (M.auE.erase,94,M.arZ):=by kernel_rfl
theorem af5:av prog M.uo=some (M.af4.erase,17,M.aeJ):=by kernel_rfl
theorem akY:av prog M.zN=some (M.ako.erase,6,M.ajo):=by kernel_rfl
theorem aBd:av prog M.QW=some (M.aCn.erase,62,M.ayk):=by kernel_rfl
theorem aHH:av prog M.zf=some (M.aHC.erase,148,M.EU):=by kernel_rfl
theorem aAJ:av prog M.IW=some (M.aCi.erase,6,M.axB):=by kernel_rfl
theorem aBr:av prog M.oz=some (M.aBG.erase,74,M.ayS):=by kernel_rfl
theorem aCG:av prog M.afN=some (M.aBj.erase,20,M.aza):=by kernel_rfl
theorem aB9:av prog M.QX=some (M.aB1.erase,33,M.ay3):=by kernel_rfl
theorem aBt:av prog M.afr=some (M.aAc.erase,33,M.axw):=by kernel_rfl
theorem aFQ:av prog M.ahg=some (M.aGA.erase,51,M.aAN):=by kernel_rfl
theorem aCw:av prog M.xG=some (M.aC8.erase,9,M.awX):=by kernel_rfl
theorem aAT:av prog M.aar=some (M.aAO.erase,36,M.ayg):=by kernel_rfl
theorem aFJ:av prog M.abf=some (M.aES.erase,89,M.aBH):=by kernel_rfl
theorem aGL:av prog M.aa9=some (M.aEh.erase,36,M.aBe):=by kernel_rfl
theorem abT:av prog M.sJ=some (M.aci.erase,36,M.aa1):=by kernel_rfl
theorem am3:av prog M.Sj=some (M.anp.erase,25,M.aky):=by kernel_rfl
theorem akS:av prog M.OU=some (M.akJ.erase,25,M.aiU):=by kernel_rfl
theorem abg:av prog M.sU=some (M.abk.erase,27,M.aaY):=by kernel_rfl
theorem ac5:av prog M.uG=some (M.acZ.erase,36,M.abj):=by kernel_rfl
theorem af9:av prog M.w9=some (M.af8.erase,27,M.ae4):=by kernel_rfl
theorem aco:av prog M.jY=some (M.JG.erase,134,M.GQ):=by kernel_rfl
theorem aJQ:av prog M.agJ=some (M.av6.erase,8,M.arL):=by kernel_rfl
theorem aBM:av prog M.uO=some (M.aBO.erase,35,M.axR):=by kernel_rfl
theorem ake:av prog M.ug=some (M.alr.erase,25,M.aja):=by kernel_rfl
theorem alo:av prog M.Ou=some (M.alq.erase,14,M.aiE):=by kernel_rfl
theorem aki:av prog M.MQ=some (M.akG.erase,19,M.ajZ):=by kernel_rfl
theorem aAW:av prog M.afh=some (M.aAg.erase,46,M.awD):=by kernel_rfl
theorem anv:av prog M.Iy=some (M.anh.erase,23,M.akV):=by kernel_rfl
theorem abh:av prog M.vW=some (M.abB.erase,20,M.aa0):=by kernel_rfl
theorem aqP:av prog M.L9=some (M.aqA.erase,20,M.aps):=by kernel_rfl
theorem aEN:av prog M.ahk=some (M.aEa.erase,18,M.aAZ):=by kernel_rfl
theorem agS:av prog M.Bf=some (M.agm.erase,39,M.afA):=by kernel_rfl
theorem agD:av prog M.BG=some (M.agl.erase,39,M.afO):=by kernel_rfl
theorem aDz:av prog M.ahd=some (M.aDL.erase,29,M.aCe):=by kernel_rfl
theorem aeX:av prog M.pq=some (M.aeV.erase,6,M.acY):=by kernel_rfl
theorem aHb:av prog M.aj3=some (M.aG5.erase,17,M.aFR):=by kernel_rfl
theorem aFN:av prog M.ahC=some (M.aEe.erase,17,M.aA4):=by kernel_rfl
theorem aAj:av prog M.aam=some (M.aAo.erase,85,M.ayp):=by kernel_rfl
theorem aHj:av prog M.JY=some (M.aG2.erase,42,M.aED):=by kernel_rfl
theorem aE2:av prog M.ahp=some (M.aGM.erase,39,M.aBT):=by kernel_rfl
theorem aA6:av prog M.afz=some (M.aAF.erase,26,M.ay5):=by kernel_rfl
theorem ay4:av prog M.ado=some (M.ayz.erase,55,M.avb):=by kernel_rfl
theorem aur:av prog M.ab3=some (M.atV.erase,35,M.atg):=by kernel_rfl
theorem awV:av prog M.Zo=some (M.ayj.erase,20,M.aul):=by kernel_rfl
theorem aDK:av prog M.zA=some (M.aFo.erase,11,M.aCV):=by kernel_rfl
theorem aHA:av prog M.aeg=some (M.aHK.erase,79,M.ahv):=by kernel_rfl
theorem aew:av prog M.u7=some (M.aeZ.erase,27,M.ac3):=by kernel_rfl
theorem afT:av prog M.xg=some (M.afU.erase,27,M.aeG):=by kernel_rfl
theorem VG:av prog M.ng=some (M.zx.erase,49,M.y8):=by kernel_rfl
theorem aGC:av prog M.abP=some (M.apL.erase,25,M.amH):=by kernel_rfl
theorem azf:av prog M.Zf=some (M.ax3.erase,39,M.auT):=by kernel_rfl
theorem OW:av prog M.oW=some (M.OZ.erase,9,M.NG):=by kernel_rfl
theorem as1:av prog M.Qy=some (M.asF.erase,10,M.aq1):=by kernel_rfl
theorem ahl:av prog M.D9=some (M.aha.erase,44,M.af6):=by kernel_rfl
theorem Yw:av prog M.qM=some (M.X9.erase,66,M.UQ):=by kernel_rfl
theorem asj:av prog M.Qp=some (M.atv.erase,10,M.aqE):=by kernel_rfl
theorem avG:av prog M.UW=some (M.aus.erase,6,M.atC):=by kernel_rfl
theorem ayh:av prog M.adN=some (M.ayM.erase,19,M.auJ):=by kernel_rfl
theorem aG4:av prog M.aju=some (M.aHD.erase,18,M.aFV):=by kernel_rfl
theorem aEj:av prog M.abu=some (M.aGK.erase,54,M.aCh):=by kernel_rfl
theorem aDF:av prog M.Wz=some (M.aGh.erase,61,M.aAt):=by kernel_rfl
theorem R9:av prog M.qc=some (M.RZ.erase,63,M.Qc):=by kernel_rfl
theorem aB8:av prog M.qd=some (M.az2.erase,24,M.axk):=by kernel_rfl
theorem aCd:av prog M.afg=some (M.aBk.erase,40,M.ayf):=by kernel_rfl
theorem Cu:av prog M.jC=some (M.Dh.erase,53,M.AY):=by kernel_rfl
theorem yC:av prog M.iq=some (M.adY.erase,220,M.acO):=by kernel_rfl
theorem aBL:av prog M.ae8=some (M.aCH.erase,6,M.axK):=by kernel_rfl
theorem aoD:av prog M.W9=some (M.apR.erase,30,M.anV):=by kernel_rfl
theorem aqv:av prog M.ZI=some (M.aqu.erase,26,M.aoH):=by kernel_rfl
theorem aog:av prog M.WO=some (M.aok.erase,18,M.anR):=by kernel_rfl
theorem anT:av prog M.Uy=some (M.anU.erase,61,M.alu):=by kernel_rfl
theorem al7:av prog M.Qj=some (M.amA.erase,20,M.akL):=by kernel_rfl
theorem aDP:av prog M.ah2=some (M.aEx.erase,13,M.aBg):=by kernel_rfl
theorem afj:av prog M.Ah=some (M.afi.erase,58,M.ae1):=by kernel_rfl
theorem aFg:av prog M.aib=some (M.aEi.erase,43,M.aBq):=by kernel_rfl
theorem adP:av prog M.yH=some (M.adg.erase,9,M.acR):=by kernel_rfl
theorem al4:av prog M.BN=some (M.aml.erase,9,M.akh):=by kernel_rfl
theorem agq:av prog M.Bn=some (M.agQ.erase,9,M.afa):=by kernel_rfl
theorem ajN:av prog M.zk=some (M.ajX.erase,7,M.aik):=by kernel_rfl
theorem aDt:av prog M.Vw=some (M.aFX.erase,48,M.aAp):=by kernel_rfl
theorem acH:av prog M.kG=some (M.acI.erase,38,M.abd):=by kernel_rfl
theorem axg:av prog M.ad6=some (M.ayG.erase,19,M.avg):=by kernel_rfl
theorem aC4:av prog M.TQ=some (M.aAk.erase,14,M.awJ):=by kernel_rfl
theorem ajS:av prog M.KO=some (M.ajF.erase,19,M.aij):=by kernel_rfl
theorem aCu:av prog M.afB=some (M.aAm.erase,11,M.axD):=by kernel_rfl
theorem aAG:av prog M.aae=some (M.aCO.erase,28,M.azi):=by kernel_rfl
end Go.Proofs.YtngjnfbngheccaaGreatDoor.Pv
namespace Go.Proofs.YtngjnfbngheccaaGreatDoor.Pv
open Go Go.Tidy
def encStr (s:S):List PV:=[.str s]
def lU (b:Bool):List PV:=[.bool b]
def dw (s:Span):List PV:=[.str s.low,.str s.high]
mutual
def fq:Ty→List PV
 | .mk a b c d nums e texts arrs objs=>[.bool a,.bool b,.bool c,.bool d,.vec 2 false (nums.map dw),.bool e,.vec 1 false (texts.map encStr),.vec 11 false (ap9 arrs),.vec 12 false (aqo objs)]
def dz:Arr→List PV
 | .mk t lo hi=>fq t++[.int .i64 lo,.int .i64 hi]
def au:Ob→List PV
 | .mk ns fs ms r=>[.vec 1 false (ns.map encStr),.vec 9 false (awg fs),.vec 1 false (ms.map lU)]++fq r
def ap9:List Arr→List (List PV)
 | []=>[]
 | a::l=>dz a::ap9 l
def aqo:List Ob→List (List PV)
 | []=>[]
 | a::l=>au a::aqo l
def awg:List Ty→List (List PV)
 | []=>[]
 | a::l=>fq a::awg l
end
theorem aq9 (l:List Arr):ap9 l=l.map dz:=by induction l with|nil=>rfl|cons a l ih=>simp[ap9,ih]
theorem aq7 (l:List Ob):aqo l=l.map au:=by induction l with|nil=>rfl|cons a l ih=>simp[aqo,ih]
theorem avy (l:List Ty):awg l=l.map fq:=by induction l with|nil=>rfl|cons a l ih=>simp[awg,ih]
abbrev cT (t:Ty):List PV:=[.bool t.all,.bool t.null,.bool t.fls,.bool t.tru,.vec 2 false (t.nums.map dw),.bool t.any,.vec 1 false (t.texts.map encStr),.vec 11 false (t.arrays.map dz),.vec 12 false (t.objects.map au)]
abbrev cA (a:Arr):List PV:=[.bool a.item.all,.bool a.item.null,.bool a.item.fls,.bool a.item.tru,.vec 2 false (a.item.nums.map dw),.bool a.item.any,.vec 1 false (a.item.texts.map encStr),.vec 11 false (a.item.arrays.map dz),.vec 12 false (a.item.objects.map au),.int .i64 a.min,.int .i64 a.max]
abbrev cO (o:Ob):List PV:=[.vec 1 false (o.names.map encStr),.vec 9 false (o.fields.map fq),.vec 1 false (o.must.map lU),.bool o.rest.all,.bool o.rest.null,.bool o.rest.fls,.bool o.rest.tru,.vec 2 false (o.rest.nums.map dw),.bool o.rest.any,.vec 1 false (o.rest.texts.map encStr),.vec 11 false (o.rest.arrays.map dz),.vec 12 false (o.rest.objects.map au)]
theorem ah9 (t:Ty):fq t=cT t:=by
 cases t; simp[fq,aq9,aq7,Ty.all,Ty.null,Ty.fls,Ty.tru,Ty.nums,Ty.any,Ty.texts,Ty.arrays,Ty.objects]
theorem azv (a:Arr):dz a=cA a:=by
 cases a; simp[dz,ah9,Arr.item,Arr.min,Arr.max]
theorem CU (o:Ob):au o=cO o:=by
 cases o; simp[au,ah9,avy,Ob.names,Ob.fields,Ob.must,Ob.rest]
attribute [simp] ah9 azv CU encStr lU dw
theorem wrap64 {n:Int} (h1 : -9223372036854775808≤n) (h2:n≤9223372036854775807):IntKind.i64.wrap n=n:=by
 simp only[IntKind.wrap,IntKind.bits,IntKind.signed]
 simp
 omega
end Go.Proofs.YtngjnfbngheccaaGreatDoor.Pv
