/- Part 11. -/
import Derived.Test.YtfilonnphgnplaaGreatDoorA10
import Derived.Test.YtfilonnphgnplaaGreatDoorProg
import Derived.Test.YtfilonnphgnplaaGreatDoorA6
set_option linter.unusedSimpArgs false
set_option linter.unusedVariables false
namespace Go.Proofs.YtfilonnphgnplaaGreatDoor.Pv
open Go
set_option maxRecDepth 1000000
noncomputable abbrev prog:Program:=Tryz.prog
theorem ah:prog.follows .mixedOrders=true:=by kernel_rfl
theorem ajn:aV prog M.L9=some (M.aiZ.erase,31,M.ahy):=by kernel_rfl
theorem ax5:aV prog M.ab4=some (M.awq.erase,129,M.arJ):=by kernel_rfl
theorem aB5:aV prog M.aeV=some (M.azh.erase,21,M.ax7):=by kernel_rfl
theorem Bg:aV prog M.qP=some (M.aoC.erase,159,M.anA):=by kernel_rfl
theorem auI:aV prog M.jy=some (M.atB.erase,37,M.aqz):=by kernel_rfl
theorem aDe:aV prog M.Lg=some (M.aD3.erase,11,M.azK):=by kernel_rfl
theorem aH7:aV prog M.IG=some (M.aH5.erase,11,M.aGN):=by kernel_rfl
theorem auT:aV prog M.vW=some (M.arO.erase,60,M.apD):=by kernel_rfl
theorem ayA:aV prog M.qj=some (M.axk.erase,87,M.agS):=by kernel_rfl
theorem aD9:aV prog M.uf=some (M.aEx.erase,45,M.aCF):=by kernel_rfl
theorem ays:aV prog M.KR=some (M.axF.erase,10,M.asa):=by kernel_rfl
theorem aG2:aV prog M.Qh=some (M.aGZ.erase,20,M.aD4):=by kernel_rfl
theorem aCd:aV prog M.aeP=some (M.azF.erase,16,M.aw2):=by kernel_rfl
theorem alN:aV prog M.QX=some (M.al6.erase,17,M.ak9):=by kernel_rfl
theorem ahv:aV prog M.Jm=some (M.aGM.erase,29,M.aD6):=by kernel_rfl
theorem av1:aV prog M.oq=some (M.ayD.erase,6,M.ase):=by kernel_rfl
theorem ap7:aV prog M.QD=some (M.aFM.erase,18,M.aEj):=by kernel_rfl
theorem aBu:aV prog M.uJ=some (M.aBn.erase,8,M.ayM):=by kernel_rfl
theorem aGI:aV prog M.ahD=some (M.aFL.erase,11,M.aEF):=by kernel_rfl
theorem av5:aV prog M.U7=some (M.axi.erase,6,M.atI):=by kernel_rfl
theorem aAt:aV prog M.aeg=some (M.azU.erase,10,M.awi):=by kernel_rfl
theorem aDo:aV prog M.af4=some (M.aDX.erase,16,M.aBh):=by kernel_rfl
theorem aDw:aV prog M.ug=some (M.aEa.erase,148,M.zL):=by kernel_rfl
theorem aDK:aV prog M.abb=some (M.aDz.erase,76,M.az7):=by kernel_rfl
theorem aAM:aV prog M.YW=some (M.aCE.erase,44,M.awI):=by kernel_rfl
theorem aAJ:aV prog M.XK=some (M.aBb.erase,30,M.aw9):=by kernel_rfl
theorem awz:aV prog M.acN=some (M.awQ.erase,57,M.ati):=by kernel_rfl
theorem as1:aV prog M.aaY=some (M.arB.erase,70,M.aqd):=by kernel_rfl
theorem aqD:aV prog M.Y9=some (M.aoK.erase,16,M.anm):=by kernel_rfl
theorem asW:aV prog M.aaT=some (M.auo.erase,44,M.apL):=by kernel_rfl
theorem aDs:aV prog M.af2=some (M.aDN.erase,17,M.aCi):=by kernel_rfl
theorem atd:aV prog M.jG=some (M.aub.erase,25,M.aqX):=by kernel_rfl
theorem akZ:aV prog M.jc=some (M.aBk.erase,109,M.axg):=by kernel_rfl
theorem aD5:aV prog M.Dh=some (M.aDI.erase,25,M.az8):=by kernel_rfl
theorem azJ:aV prog M.FQ=some (M.aze.erase,9,M.ayc):=by kernel_rfl
theorem atT:aV prog M.sJ=some (M.atN.erase,15,M.aqa):=by kernel_rfl
theorem awf:aV prog M.acj=some (M.aw0.erase,33,M.asl):=by kernel_rfl
theorem aAr:aV prog M.aeE=some (M.az0.erase,51,M.awC):=by kernel_rfl
theorem ayL:aV prog M.u6=some (M.ayw.erase,9,M.auQ):=by kernel_rfl
theorem ayP:aV prog M.UG=some (M.av7.erase,36,M.atX):=by kernel_rfl
theorem aBB:aV prog M.ZO=some (M.aB6.erase,89,M.awp):=by kernel_rfl
theorem aBV:aV prog M.ZE=some (M.aCj.erase,36,M.axn):=by kernel_rfl
theorem apT:aV prog M.jF=some (M.aoY.erase,82,M.aol):=by kernel_rfl
theorem azy:aV prog M.qX=some (M.azI.erase,6,M.awr):=by kernel_rfl
theorem aGd:aV prog M.ZX=some (M.aq5.erase,94,M.amG):=by kernel_rfl
theorem aqu:aV prog M.p8=some (M.aG1.erase,99,M.aDE):=by kernel_rfl
theorem auq:aV prog M.oW=some (M.atM.erase,62,M.aql):=by kernel_rfl
theorem aBr:aV prog M.OQ=some (M.aCv.erase,9,M.aw7):=by kernel_rfl
theorem aAV:aV prog M.Yh=some (M.aAC.erase,21,M.aw4):=by kernel_rfl
theorem apU:aV prog M.nI=some (M.aru.erase,113,M.aey):=by kernel_rfl
theorem aEH:aV prog M.oZ=some (M.aEv.erase,140,M.aAu):=by kernel_rfl
theorem axw:aV prog M.yu=some (M.axV.erase,2,M.asX):=by kernel_rfl
theorem aDR:aV prog M.afO=some (M.aDh.erase,17,M.az1):=by kernel_rfl
theorem azs:aV prog M.adN=some (M.aBJ.erase,17,M.aw6):=by kernel_rfl
theorem awV:aV prog M.UJ=some (M.axG.erase,85,M.auB):=by kernel_rfl
theorem aD7:aV prog M.Cu=some (M.aDf.erase,42,M.aAR):=by kernel_rfl
theorem awd:aV prog M.acu=some (M.ayW.erase,20,M.auj):=by kernel_rfl
theorem av8:aV prog M.JV=some (M.awm.erase,33,M.ar1):=by kernel_rfl
theorem aw5:aV prog M.Uq=some (M.av9.erase,9,M.aus):=by kernel_rfl
theorem Nu:aV prog M.lQ=some (M.arp.erase,42,M.anj):=by kernel_rfl
theorem atF:aV prog M.GQ=some (M.atf.erase,61,M.arw):=by kernel_rfl
theorem ayG:aV prog M.acz=some (M.axh.erase,61,M.aa5):=by kernel_rfl
theorem ajh:aV prog M.L6=some (M.ajg.erase,10,M.ah0):=by kernel_rfl
theorem akE:aV prog M.Qd=some (M.ak0.erase,59,M.ajp):=by kernel_rfl
theorem ai4:aV prog M.Mh=some (M.ai8.erase,17,M.ahV):=by kernel_rfl
theorem ahZ:aV prog M.za=some (M.ah7.erase,52,M.agj):=by kernel_rfl
theorem agX:aV prog M.yg=some (M.agR.erase,66,M.afy):=by kernel_rfl
theorem ajt:aV prog M.MG=some (M.ajc.erase,8,M.ahq):=by kernel_rfl
theorem agV:aV prog M.r9=some (M.agT.erase,8,M.af9):=by kernel_rfl
theorem ak2:aV prog M.OG=some (M.akd.erase,8,M.aje):=by kernel_rfl
theorem aki:aV prog M.AU=some (M.ajP.erase,8,M.ajd):=by kernel_rfl
theorem ajj:aV prog M.LU=some (M.ai3.erase,8,M.ahk):=by kernel_rfl
theorem aiT:aV prog M.Mg=some (M.aiV.erase,8,M.ahs):=by kernel_rfl
theorem aiE:aV prog M.jK=some (M.awh.erase,83,M.Qm):=by kernel_rfl
theorem asQ:aV prog M.o7=some (M.asr.erase,50,M.apm):=by kernel_rfl
theorem aAh:aV prog M.ou=some (M.aBY.erase,57,M.axl):=by kernel_rfl
theorem aEg:aV prog M.Dz=some (M.aDF.erase,52,M.aCu):=by kernel_rfl
theorem auh:aV prog M.Qx=some (M.asF.erase,20,M.apx):=by kernel_rfl
theorem aBo:aV prog M.x9=some (M.aCw.erase,11,M.ayT):=by kernel_rfl
theorem ayq:aV prog M.Uj=some (M.ayn.erase,11,M.ar4):=by kernel_rfl
theorem aDU:aV prog M.abh=some (M.aEk.erase,79,M.ael):=by kernel_rfl
theorem aEh:aV prog M.afv=some (M.aEG.erase,18,M.aBW):=by kernel_rfl
theorem axy:aV prog M.oo=some (M.ay1.erase,2,M.arQ):=by kernel_rfl
theorem aA4:aV prog M.aer=some (M.aB8.erase,37,M.awD):=by kernel_rfl
theorem afS:aV prog M.DN=some (M.afL.erase,36,M.ae5):=by kernel_rfl
theorem ayp:aV prog M.Uz=some (M.awj.erase,62,M.asO):=by kernel_rfl
theorem ai6:aV prog M.MH=some (M.aja.erase,36,M.aik):=by kernel_rfl
theorem azg:aV prog M.aeA=some (M.aBp.erase,29,M.axj):=by kernel_rfl
theorem ao7:aV prog M.Zu=some (M.ap6.erase,27,M.aoq):=by kernel_rfl
theorem amh:aV prog M.D9=some (M.ame.erase,26,M.aj5):=by kernel_rfl
theorem at5:aV prog M.aaZ=some (M.auG.erase,27,M.aqc):=by kernel_rfl
theorem atZ:aV prog M.aaG=some (M.asx.erase,27,M.aoM):=by kernel_rfl
theorem atQ:aV prog M.QH=some (M.atn.erase,17,M.aq3):=by kernel_rfl
theorem aya:aV prog M.UF=some (M.ayt.erase,23,M.asi):=by kernel_rfl
theorem axK:aV prog M.UO=some (M.awG.erase,29,M.atG):=by kernel_rfl
theorem agh:aV prog M.jv=some (M.asV.erase,112,M.Ng):=by kernel_rfl
theorem awW:aV prog M.vg=some (M.axu.erase,49,M.auf):=by kernel_rfl
theorem akY:aV prog M.AV=some (M.akM.erase,45,M.ajo):=by kernel_rfl
theorem ay2:aV prog M.Aj=some (M.axA.erase,38,M.aut):=by kernel_rfl
theorem ayR:aV prog M.Um=some (M.axt.erase,14,M.arD):=by kernel_rfl
theorem aCI:aV prog M.ZF=some (M.azc.erase,29,M.awn):=by kernel_rfl
theorem awy:aV prog M.UZ=some (M.axC.erase,10,M.auR):=by kernel_rfl
theorem ayO:aV prog M.rz=some (M.ayK.erase,35,M.ar8):=by kernel_rfl
theorem as6:aV prog M.wz=some (M.auF.erase,25,M.aqK):=by kernel_rfl
theorem atW:aV prog M.aam=some (M.atj.erase,14,M.aoQ):=by kernel_rfl
theorem aAk:aV prog M.GU=some (M.aBE.erase,18,M.axR):=by kernel_rfl
theorem ayz:aV prog M.vo=some (M.awO.erase,11,M.arU):=by kernel_rfl
theorem adv:aV prog M.zi=some (M.adw.erase,39,M.abW):=by kernel_rfl
theorem aCD:aV prog M.ad6=some (M.aAn.erase,17,M.ayH):=by kernel_rfl
theorem ae2:aV prog M.vK=some (M.aeY.erase,36,M.adW):=by kernel_rfl
theorem aed:aV prog M.zI=some (M.aeH.erase,39,M.ac8):=by kernel_rfl
theorem aEz:aV prog M.afD=some (M.aDl.erase,22,M.aBM):=by kernel_rfl
theorem aez:aV prog M.zF=some (M.aec.erase,39,M.ado):=by kernel_rfl
theorem aEu:aV prog M.af6=some (M.aDG.erase,27,M.aB1):=by kernel_rfl
theorem ahF:aV prog M.Jg=some (M.ahS.erase,36,M.agx):=by kernel_rfl
theorem axH:aV prog M.acG=some (M.awL.erase,25,M.atH):=by kernel_rfl
theorem arI:aV prog M.aay=some (M.atP.erase,25,M.aq7):=by kernel_rfl
theorem aif:aV prog M.Jf=some (M.aic.erase,27,M.agn):=by kernel_rfl
theorem ai0:aV prog M.Mq=some (M.ai9.erase,36,M.aho):=by kernel_rfl
theorem amq:aV prog M.QW=some (M.ams.erase,27,M.ak6):=by kernel_rfl
theorem aau:aV prog M.qm=some (M.aa0.erase,54,M.aaf):=by kernel_rfl
theorem arb:aV prog M.Zh=some (M.apR.erase,27,M.aob):=by kernel_rfl
theorem aoV:aV prog M.Yg=some (M.apt.erase,26,M.aoa):=by kernel_rfl
theorem atu:aV prog M.ql=some (M.atC.erase,38,M.ard):=by kernel_rfl
theorem apB:aV prog M.nG=some (M.ark.erase,43,M.aos):=by kernel_rfl
theorem aBX:aV prog M.Zl=some (M.aAq.erase,18,M.aw1):=by kernel_rfl
theorem aGH:aV prog M.QC=some (M.aFz.erase,43,M.aEi):=by kernel_rfl
theorem aEA:aV prog M.afJ=some (M.aDB.erase,5,M.aAc):=by kernel_rfl
theorem aug:aV prog M.Ql=some (M.asH.erase,39,M.aq8):=by kernel_rfl
theorem abu:aV prog M.xu=some (M.abx.erase,9,M.aa3):=by kernel_rfl
theorem an5:aV prog M.JC=some (M.anT.erase,10,M.amk):=by kernel_rfl
theorem anB:aV prog M.VK=some (M.an1.erase,44,M.al5):=by kernel_rfl
theorem adX:aV prog M.zu=some (M.adR.erase,66,M.adg):=by kernel_rfl
theorem aow:aV prog M.Jy=some (M.ano.erase,10,M.amg):=by kernel_rfl
theorem av4:aV prog M.UM=some (M.awN.erase,23,M.arP):=by kernel_rfl
theorem ahT:aV prog M.Jq=some (M.ahW.erase,20,M.agQ):=by kernel_rfl
theorem alY:aV prog M.DX=some (M.al7.erase,20,M.aks):=by kernel_rfl
theorem aAp:aV prog M.aeO=some (M.aAg.erase,18,M.avY):=by kernel_rfl
theorem adj:aV prog M.zh=some (M.adz.erase,39,M.ace):=by kernel_rfl
theorem ac4:aV prog M.y8=some (M.adb.erase,39,M.acp):=by kernel_rfl
theorem ajY:aV prog M.OU=some (M.ajO.erase,27,M.ajr):=by kernel_rfl
theorem amx:aV prog M.R9=some (M.amn.erase,27,M.ajD):=by kernel_rfl
theorem amv:aV prog M.Rz=some (M.amt.erase,17,M.akG):=by kernel_rfl
theorem agd:aV prog M.yh=some (M.ags.erase,6,M.afN):=by kernel_rfl
theorem aCp:aV prog M.Zq=some (M.aAQ.erase,72,M.aw8):=by kernel_rfl
theorem aDV:aV prog M.agc=some (M.aEd.erase,50,M.aA5):=by kernel_rfl
theorem axc:aV prog M.ab6=some (M.awX.erase,69,M.atw):=by kernel_rfl
theorem aCg:aV prog M.Yx=some (M.aCZ.erase,10,M.ayV):=by kernel_rfl
theorem aDu:aV prog M.abk=some (M.aDJ.erase,26,M.aC4):=by kernel_rfl
theorem azQ:aV prog M.OW=some (M.azH.erase,61,M.awM):=by kernel_rfl
theorem acv:aV prog M.yx=some (M.abZ.erase,63,M.abK):=by kernel_rfl
theorem ayi:aV prog M.oG=some (M.awY.erase,24,M.ate):=by kernel_rfl
theorem ak7:aV prog M.sj=some (M.akC.erase,6,M.ajk):=by kernel_rfl
theorem apv:aV prog M.Nk=some (M.aqT.erase,6,M.anq):=by kernel_rfl
theorem ayY:aV prog M.Kg=some (M.ax9.erase,62,M.auP):=by kernel_rfl
theorem aww:aV prog M.mq=some (M.awo.erase,74,M.at1):=by kernel_rfl
theorem Ug:aV prog M.nu=some (M.Tq.erase,53,M.RZ):=by kernel_rfl
theorem wu:aV prog M.iy=some (M.aaq.erase,220,M.aae):=by kernel_rfl
theorem aw3:aV prog M.acO=some (M.axN.erase,6,M.asI):=by kernel_rfl
theorem ak8:aV prog M.OZ=some (M.aj2.erase,30,M.ajs):=by kernel_rfl
theorem ama:aV prog M.Sj=some (M.alX.erase,26,M.akL):=by kernel_rfl
theorem akD:aV prog M.O7=some (M.aj7.erase,18,M.ajm):=by kernel_rfl
theorem ai1:aV prog M.L8=some (M.ajf.erase,61,M.ahp):=by kernel_rfl
theorem ahK:aV prog M.JK=some (M.ahr.erase,20,M.agJ):=by kernel_rfl
theorem azu:aV prog M.adY=some (M.aBd.erase,13,M.axr):=by kernel_rfl
theorem aC3:aV prog M.aee=some (M.aAP.erase,39,M.axI):=by kernel_rfl
theorem ayb:aV prog M.acV=some (M.ayN.erase,26,M.atm):=by kernel_rfl
theorem auv:aV prog M.aat=some (M.at0.erase,55,M.aqm):=by kernel_rfl
theorem aqe:aV prog M.YC=some (M.apO.erase,35,M.an4):=by kernel_rfl
theorem acf:aV prog M.yH=some (M.acR.erase,58,M.abR):=by kernel_rfl
theorem axd:aV prog M.acg=some (M.ayg.erase,46,M.auE):=by kernel_rfl
theorem aC2:aV prog M.aeb=some (M.azm.erase,43,M.ayj):=by kernel_rfl
theorem aaV:aV prog M.vV=some (M.aaD.erase,9,M.aad):=by kernel_rfl
theorem ahU:aV prog M.y9=some (M.ahb.erase,9,M.agf):=by kernel_rfl
theorem aeS:aV prog M.zx=some (M.aew.erase,9,M.adt):=by kernel_rfl
theorem ada:aV prog M.yX=some (M.ade.erase,9,M.ab9):=by kernel_rfl
theorem af5:aV prog M.xg=some (M.af3.erase,7,M.aeZ):=by kernel_rfl
theorem aAU:aV prog M.O8=some (M.aBU.erase,48,M.ayo):=by kernel_rfl
theorem ao4:aV prog M.ZY=some (M.aoO.erase,37,M.anh):=by kernel_rfl
theorem as4:aV prog M.aaP=some (M.aun.erase,19,M.ars):=by kernel_rfl
theorem aBw:aV prog M.YX=some (M.azd.erase,54,M.axa):=by kernel_rfl
theorem Z8:aV prog M.jR=some (M.aac.erase,38,M.Xw):=by kernel_rfl
theorem atA:aV prog M.aaN=some (M.as5.erase,19,M.aqZ):=by kernel_rfl
theorem awc:aV prog M.JR=some (M.ax2.erase,14,M.auy):=by kernel_rfl
theorem adx:aV prog M.ze=some (M.adf.erase,19,M.acy):=by kernel_rfl
theorem ag3:aV prog M.Gu=some (M.agZ.erase,19,M.afB):=by kernel_rfl
theorem afP:aV prog M.Dw=some (M.afK.erase,19,M.ae0):=by kernel_rfl
theorem awk:aV prog M.ach=some (M.ayd.erase,11,M.ato):=by kernel_rfl
theorem axe:aV prog M.Uy=some (M.axW.erase,28,M.auC):=by kernel_rfl
theorem alJ:aV prog M.QO=some (M.amj.erase,9,M.akI):=by kernel_rfl
theorem avV:aV prog M.acP=some (M.axb.erase,40,M.asv):=by kernel_rfl
end Go.Proofs.YtfilonnphgnplaaGreatDoor.Pv
namespace Go.Proofs.YtfilonnphgnplaaGreatDoor.Pv
open Go Go.Tidy
def encStr (s:S):List PV:=[.str s]
def jH (b:Bool):List PV:=[.bool b]
def dH (s:Span):List PV:=[.str s.low,.str s.high]
mutual
def eU:Ty→List PV
 | .mk a b c d nums e texts arrs objs=>[.bool a,.bool b,.bool c,.bool d,.vec 2 false (nums.map dH),.bool e,.vec 1 false (texts.map encStr),.vec 11 false (alr arrs),.vec 12 false (alo objs)]
def dh:Arr→List PV
 | .mk t lo hi=>eU t++[.int .i64 lo,.int .i64 hi]
def av:Ob→List PV
 | .mk ns fs ms r=>[.vec 1 false (ns.map encStr),.vec 9 false (aqr fs),.vec 1 false (ms.map jH)]++eU r
def alr:List Arr→List (List PV)
 | []=>[]
 | a::l=>dh a::alr l
def alo:List Ob→List (List PV)
 | []=>[]
 | a::l=>av a::alo l
def aqr:List Ty→List (List PV)
 | []=>[]
 | a::l=>eU a::aqr l
end
theorem aEm (l:List Arr):alr l=l.map dh:=by induction l with|nil=>rfl|cons a l ih=>simp[alr,ih]
theorem aEn (l:List Ob):alo l=l.map av:=by induction l with|nil=>rfl|cons a l ih=>simp[alo,ih]
theorem aFy (l:List Ty):aqr l=l.map eU:=by induction l with|nil=>rfl|cons a l ih=>simp[aqr,ih]
abbrev cT (t:Ty):List PV:=[.bool t.all,.bool t.null,.bool t.fls,.bool t.tru,.vec 2 false (t.nums.map dH),.bool t.any,.vec 1 false (t.texts.map encStr),.vec 11 false (t.arrays.map dh),.vec 12 false (t.objects.map av)]
abbrev cA (a:Arr):List PV:=[.bool a.item.all,.bool a.item.null,.bool a.item.fls,.bool a.item.tru,.vec 2 false (a.item.nums.map dH),.bool a.item.any,.vec 1 false (a.item.texts.map encStr),.vec 11 false (a.item.arrays.map dh),.vec 12 false (a.item.objects.map av),.int .i64 a.min,.int .i64 a.max]
abbrev cO (o:Ob):List PV:=[.vec 1 false (o.names.map encStr),.vec 9 false (o.fields.map eU),.vec 1 false (o.must.map jH),.bool o.rest.all,.bool o.rest.null,.bool o.rest.fls,.bool o.rest.tru,.vec 2 false (o.rest.nums.map dH),.bool o.rest.any,.vec 1 false (o.rest.texts.map encStr),.vec 11 false (o.rest.arrays.map dh),.vec 12 false (o.rest.objects.map av)]
theorem adU (t:Ty):eU t=cT t:=by
 cases t; simp[eU,aEm,aEn,Ty.all,Ty.null,Ty.fls,Ty.tru,Ty.nums,Ty.any,Ty.texts,Ty.arrays,Ty.objects]
theorem ajE (a:Arr):dh a=cA a:=by
 cases a; simp[dh,adU,Arr.item,Arr.min,Arr.max]
theorem qM (o:Ob):av o=cO o:=by
 cases o; simp[av,adU,aFy,Ob.names,Ob.fields,Ob.must,Ob.rest]
attribute [simp] adU ajE qM encStr jH dH
theorem wrap64 {n:Int} (h1 : -9223372036854775808≤n) (h2:n≤9223372036854775807):IntKind.i64.wrap n=n:=by
 simp only[IntKind.wrap,IntKind.bits,IntKind.signed]
 simp
 omega
end Go.Proofs.YtfilonnphgnplaaGreatDoor.Pv
