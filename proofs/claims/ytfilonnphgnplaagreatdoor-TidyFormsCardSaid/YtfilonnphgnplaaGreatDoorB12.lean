/- Part 12. -/
import Derived.Test.YtfilonnphgnplaaGreatDoorB11
import Derived.Test.YtfilonnphgnplaaGreatDoorB8
set_option linter.unusedSimpArgs false
set_option linter.unusedVariables false
set_option maxRecDepth 100000
namespace Go.Proofs.YtfilonnphgnplaaGreatDoor.Pv
open Go Go.Tidy
theorem u8_le {c d:UInt8}:((c.toNat:Int)≤(d.toNat:Int))↔c≤d:=by rw[UInt8.le_iff_toNat_le]; omega
theorem u8_lt {c d:UInt8}:((c.toNat:Int)<(d.toNat:Int))↔c<d:=by rw[UInt8.lt_iff_toNat_lt]; omega
@[simp] theorem u8_lt128 {c:UInt8}:((c.toNat:Int)<128)↔c<128:=u8_lt (d:=128)
@[simp] theorem u8_gt191 {c:UInt8}:(191<(c.toNat:Int))↔191<c:=u8_lt (c:=191)
@[simp] theorem u8_e224 {c:UInt8}:((c.toNat:Int)=224)↔c=224:=u8_eq 224
@[simp] theorem u8_e237 {c:UInt8}:((c.toNat:Int)=237)↔c=237:=u8_eq 237
@[simp] theorem u8_e240 {c:UInt8}:((c.toNat:Int)=240)↔c=240:=u8_eq 240
@[simp] theorem u8_e244 {c:UInt8}:((c.toNat:Int)=244)↔c=244:=u8_eq 244
@[simp] theorem u8_ge194 {c:UInt8}:(194≤(c.toNat:Int))↔194≤c:=u8_le (c:=194)
@[simp] theorem u8_ge224 {c:UInt8}:(224≤(c.toNat:Int))↔224≤c:=u8_le (c:=224)
@[simp] theorem u8_ge240 {c:UInt8}:(240≤(c.toNat:Int))↔240≤c:=u8_le (c:=240)
@[simp] theorem u8_le223 {c:UInt8}:((c.toNat:Int)≤223)↔c≤223:=u8_le (d:=223)
@[simp] theorem u8_le239 {c:UInt8}:((c.toNat:Int)≤239)↔c≤239:=u8_le (d:=239)
@[simp] theorem u8_le244 {c:UInt8}:((c.toNat:Int)≤244)↔c≤244:=u8_le (d:=244)
theorem trail_fail {l:List UInt8} {i n k:Nat} {lo hi:UInt8} (hk:k<n) (h:i+k<l.length) (hc:¬ (128≤l[i+k]∧l[i+k]≤191)):trail (l.drop i) n lo hi=false:=by
 have:((l.drop i).take n).all (fun c=>128≤c&&c≤191)=false:=by
  rw[List.all_eq_false]
  refine⟨l[i+k],?_,by simpa using hc⟩
  rw[List.mem_iff_getElem?]
  exact⟨k,by rw[List.getElem?_take_of_lt hk,List.getElem?_drop,List.getElem?_eq_getElem h]⟩
 simp[trail,this]
theorem c_ref03_trail (l:List UInt8) (i n:Nat) (lo hi:UInt8) (hn:1≤n) (hn' : n≤3) (hi' : i≤l.length):Ret prog M.F_ref03_trail [.str (bs l),.int .i64 i,.int .i64 n,.int .u8 lo.toNat,.int .u8 hi.toNat] (.bool (trail (l.drop i) n lo hi)):=by
 refine Ret.go hmix h_ref03_trail (by simp) fun hb w0 F0 hG=>?_
 simp only[bndL,bndV,bs_size,LIM,and_true] at hb
 have w1:=wrap64 (n:=(i:Int)+n) (by omega) (by omega)
 by_cases h:i+n≤l.length
 ·have h' : ¬ ((l.length:Int)<(i:Int)+n):=by omega
  simp[w1,h']
  obtain⟨J,hJ⟩ : ∃ J:Nat→Unit→Prop,J=fun k _=>((l.drop i).take k).all (fun c=>128≤c&&c≤191)=true:=⟨_,rfl⟩
  refine XLoop.cnt hmix n (fun k _=>⟨[(11,.int .i64 k),(0,.str (bs l)),(1,.int .i64 i),(2,.int .i64 n),(3,.int .u8 lo.toNat),(4,.int .u8 hi.toNat)],[]⟩) J () (by simp[hJ]) (by simp) fun k _ hk hj=>?_
  have hw:=wrap64 (n:=(k:Int)+1) (by omega) (by omega)
  have hw2:=wrap64 (n:=(i:Int)+k) (by omega) (by omega)
  have hj' : ((l.drop i).take k).all (fun c=>128≤c&&c≤191)=true:=by subst hJ; exact hj
  have e0:((i:Int)+(k:Int)).toNat=i+k:=by omega
  by_cases h1:k<n
  ·have h2:i+k<l.length:=by omega
   have h3:(i:Int)+k<l.length:=by omega
   have h4:(0:Int)≤(i:Int)+k:=by omega
   by_cases hc:128≤l[i+k]∧l[i+k]≤191
   ·have k1:¬ l[i+k]<128:=UInt8.not_lt.2 hc.1
    have k2:¬ 191<l[i+k]:=UInt8.not_lt.2 hc.2
    simp[h1,hw,hw2,e0,h2,h3,h4,k1,k2]
    refine⟨(),?_⟩
    subst hJ
    show ((l.drop i).take (k+1)).all _=true
    rw[take_all (by simp; omega) hj']
    simpa using hc
   ·rw[trail_fail h1 h2 hc]
    have k12:l[i+k]<128∨191<l[i+k]:=by
     rcases UInt8.lt_or_le l[i+k] 128 with k1|k1
     ·exact .inl k1
     ·rcases UInt8.lt_or_le 191 l[i+k] with k2|k2
      ·exact .inr k2
      ·exact absurd ⟨k1,k2⟩ hc
    rcases k12 with k1|k1
    ·simp[h1,hw,hw2,e0,h2,h3,h4,k1]
    ·by_cases k2:l[i+k]<128
     ·simp[h1,hw,hw2,e0,h2,h3,h4,k2]
     ·simp[h1,hw,hw2,e0,h2,h3,h4,k1,k2]
  ·have:k=n:=by omega
   subst this
   have hil:i<l.length:=by omega
   have e:trail (l.drop i) k lo hi=(decide (lo≤l[i])&&decide (l[i]≤hi)):=by
    unfold trail
    rw[hj',List.drop_eq_getElem_cons hil]
    have:k≤(l[i]::l.drop (i+1)).length:=by simp; omega
    rw[decide_eq_true this]; rfl
   rw[e]
   by_cases k1:lo≤l[i]
   ·have k1' : lo.toNat≤l[i].toNat:=UInt8.le_iff_toNat_le.1 k1
    have k2:decide (l[i].toNat≤hi.toNat)=decide (l[i]≤hi):=by simp[UInt8.le_iff_toNat_le]
    simp[hil,k1,k1',k2]
   ·have k1' : ¬ lo.toNat≤l[i].toNat:=fun h=>k1 (UInt8.le_iff_toNat_le.2 h)
    simp[hil,k1,k1']
 ·have h' : ((l.length:Int)<(i:Int)+n):=by omega
  have e:trail (l.drop i) n lo hi=false:=by
   have:¬ n≤l.length-i:=by omega
   simp[trail,this]
  rw[e]
  simp[w1,h']
theorem trail_len {l:List UInt8} {n:Nat} {lo hi:UInt8} (h:trail l n lo hi=true):n≤l.length:=by
 simp[trail] at h; exact h.1.1
theorem width_len (l:List UInt8):width l≤l.length:=by
 cases l with
 | nil=>simp[width]
 | cons c l =>
   simp only[width]
   repeat' split
   all_goals first
     | (simp; done)
     | (rename_i h; simp only[Bool.and_eq_true] at h; have:=trail_len h.2; simp; omega)
theorem width_end {w0:World} {F0:Nat→Prop} {hG:GOk prog w0 F0} (l:List UInt8) (i c lo hi:Nat) (T:Nat→Bool) (w1' : IntKind.i64.wrap ((i:Int)+1)=((i+1:Nat):Int))
 (tr:∀ n:Nat,1≤n→n≤3→Ret prog M.F_ref03_trail [.str (bs l),.int .i64 ((i+1:Nat):Int),.int .i64 n,.int .u8 lo,.int .u8 hi] (.bool (T n))) (W:Nat)
 (hW:W=if 224≤c∧c≤239∧T 2=true then 3 else if 240≤c∧c≤244∧T 3=true then 4 else 0) :
 XC ⟨prog,w0,F0,61,[],0,hG⟩ M.t_ref03_width_0 ⟨[(5,.int .u8 c),(6,.int .u8 lo),(7,.int .u8 hi),(0,.str (bs l)),(1,.int .i64 i)],[]⟩ [] (retIs M.rs_ref03_width (.int .i64 W)):=by
 by_cases g1:224≤c
 ·have g1' : (224:Int)≤c:=by omega
  by_cases g2:c≤239
  ·have g2' : (c:Int)≤239:=by omega
   have n1:¬ 240≤c:=by omega
   have n1' : ¬ (240:Int)≤c:=by omega
   simp[g1',g2',n1',w1']
   refine XCall.ret (tr 2 (by omega) (by omega)) ?_
   cases ht:T 2
   ·simp[n1',hW,n1,ht]
   ·simp[hW,g1,g2,ht]
  ·have g2' : ¬ (c:Int)≤239:=by omega
   have g3:240≤c:=by omega
   have g3' : (240:Int)≤c:=by omega
   by_cases g4:c≤244
   ·have g4' : (c:Int)≤244:=by omega
    simp[g1',g2',g3',g4',w1']
    refine XCall.ret (tr 3 (by omega) (by omega)) ?_
    cases ht:T 3<;>simp[hW,g2,g3,g4,ht]
   ·have g4' : ¬ (c:Int)≤244:=by omega
    simp[g1',g2',g3',g4',hW,g2,g3,g4]
 ·have g1' : ¬ (224:Int)≤c:=by omega
  have n1:¬ 240≤c:=by omega
  have n1' : ¬ (240:Int)≤c:=by omega
  simp[g1',n1',hW,n1,g1]
theorem width_tail {w0:World} {F0:Nat→Prop} {hG:GOk prog w0 F0} (l d:List UInt8) (i:Nat) (c:UInt8) (w1' : IntKind.i64.wrap ((i:Int)+1)=((i+1:Nat):Int))
 (tr:∀ (n:Nat) (lo hi:UInt8),1≤n→n≤3→Ret prog M.F_ref03_trail [.str (bs l),.int .i64 ((i+1:Nat):Int),.int .i64 n,.int .u8 lo.toNat,.int .u8 hi.toNat] (.bool (trail d n lo hi))) (s:List (Nat × PV))
 (e5:lk 5 s=.int .u8 c.toNat) (e6:lk 6 s=.int .u8 128) (e7:lk 7 s=.int .u8 191) (e0:lk 0 s=.str (bs l)) (e1:lk 1 s=.int .i64 i) :
 XCut ⟨prog,w0,F0,61,[],0,hG⟩ M.c_ref03_width_0 ⟨s,[]⟩ [.sq M.t_ref03_width_3] (retIs M.rs_ref03_width (.int .i64 (if 224≤c&&c≤239&&trail d 2 (if c == 224 then 160 else 128) (if c == 237 then 159 else 191) then 3 else if 240≤c&&c≤244&&trail d 3 (if c == 240 then 144 else 128) (if c == 244 then 143 else 191) then 4 else 0:Nat))):=by
 refine XCut.one hmix ⟨[(5,.int .u8 c.toNat),(6,.int .u8 ((if c=224 then 160 else 128:UInt8).toNat:Int)),(7,.int .u8 ((191:UInt8).toNat:Int)),(0,.str (bs l)),(1,.int .i64 i)],[]⟩ ?_ ?_
 ·by_cases h:c=224<;>simp[e5,e6,e7,e0,e1,h]
 simp
 refine XCut.one hmix ⟨[(5,.int .u8 c.toNat),(6,.int .u8 ((if c=224 then 160 else 128:UInt8).toNat:Int)),(7,.int .u8 ((if c=237 then 159 else 191:UInt8).toNat:Int)),(0,.str (bs l)),(1,.int .i64 i)],[]⟩ ?_ ?_
 ·by_cases h:c=237<;>simp[h]
 simp
 refine XCut.one hmix ⟨[(5,.int .u8 c.toNat),(6,.int .u8 ((if c=240 then 144 else (if c=224 then 160 else 128):UInt8).toNat:Int)),(7,.int .u8 ((if c=237 then 159 else 191:UInt8).toNat:Int)),(0,.str (bs l)),(1,.int .i64 i)],[]⟩ ?_ ?_
 ·by_cases h:c=240<;>simp[h]
 simp
 refine XCut.one hmix ⟨[(5,.int .u8 c.toNat),(6,.int .u8 ((if c=240 then 144 else (if c=224 then 160 else 128):UInt8).toNat:Int)),(7,.int .u8 ((if c=244 then 143 else (if c=237 then 159 else 191):UInt8).toNat:Int)),(0,.str (bs l)),(1,.int .i64 i)],[]⟩ ?_ ?_
 ·by_cases h:c=244<;>simp[h]
 rw[XE_sq]
 refine width_end l i c.toNat _ _ (fun n=>trail d n (if c=240 then 144 else (if c=224 then 160 else 128)) (if c=244 then 143 else (if c=237 then 159 else 191))) w1' (fun n h1 h2=>tr n _ _ h1 h2) _ ?_
 have q1:(224≤c)=(224≤c.toNat):=by rw[UInt8.le_iff_toNat_le]; rfl
 have q2:(c≤239)=(c.toNat≤239):=by rw[UInt8.le_iff_toNat_le]; rfl
 have q3:(240≤c)=(240≤c.toNat):=by rw[UInt8.le_iff_toNat_le]; rfl
 have q4:(c≤244)=(c.toNat≤244):=by rw[UInt8.le_iff_toNat_le]; rfl
 simp only[q1,q2,q3,q4,Bool.and_eq_true,decide_eq_true_eq,beq_iff_eq,and_assoc]
 by_cases g1:c.toNat≤239
 ·have n1:¬ 240≤c.toNat:=by omega
  have n2:¬ c=240:=fun e=>n1 (by rw[e]; decide)
  have n3:¬ c=244:=fun e=>n1 (by rw[e]; decide)
  simp[n1,n2,n3]
 ·have n2:¬ c=224:=fun e=>g1 (by rw[e]; decide)
  have n3:¬ c=237:=fun e=>g1 (by rw[e]; decide)
  simp[g1,n2,n3]
theorem c_ref03_width (l:List UInt8) (i:Nat) (hi:i<l.length):Ret prog M.F_ref03_width [.str (bs l),.int .i64 i] (.int .i64 (width (l.drop i))):=by
 refine Ret.go hmix h_ref03_width (by simp) fun hb w0 F0 hG=>?_
 simp only[bndL,bndV,bs_size,LIM,and_true] at hb
 have w1:=wrap64 (n:=(i:Int)+1) (by omega) (by omega)
 have w1' : IntKind.i64.wrap ((i:Int)+1)=((i+1:Nat):Int):=by rw[w1]; omega
 have e0:l.drop i=l[i]::l.drop (i+1):=List.drop_eq_getElem_cons hi
 have tr:∀ (n:Nat) (lo hi:UInt8),1≤n→n≤3→Ret prog M.F_ref03_trail [.str (bs l),.int .i64 ((i+1:Nat):Int),.int .i64 n,.int .u8 lo.toNat,.int .u8 hi.toNat] (.bool (trail (l.drop (i+1)) n lo hi)):=fun n lo hi' h1 h2=>c_ref03_trail l (i+1) n lo hi' h1 h2 (by omega)
 rw[e0]
 generalize hc:l[i]=c
 generalize hd:l.drop (i+1)=d at *
 by_cases h1:c<128
 ·simp[hi,hc,h1,width]
 ·have hw:width (c::d)=if 194≤c&&c≤223&&trail d 1 128 191 then 2 else (if 224≤c&&c≤239&&trail d 2 (if c == 224 then 160 else 128) (if c == 237 then 159 else 191) then 3 else if 240≤c&&c≤244&&trail d 3 (if c == 240 then 144 else 128) (if c == 244 then 143 else 191) then 4 else 0):=by
     simp only[width]; rw[if_neg h1]
  rw[hw]
  generalize hW:(if 224≤c&&c≤239&&trail d 2 (if c == 224 then 160 else 128) (if c == 237 then 159 else 191) then 3 else if 240≤c&&c≤244&&trail d 3 (if c == 240 then 144 else 128) (if c == 244 then 143 else 191) then 4 else 0)=W
  have tail:=width_tail (w0:=w0) (F0:=F0) (hG:=hG) l d i c w1' tr
  rw[hW] at tail
  by_cases h2:194≤c
  ·by_cases h3:c≤223
   ·simp[hi,hc,h1,h2,h3,w1']
    refine XCall.ret (tr 1 128 191 (by omega) (by omega)) ?_
    cases ht:trail d 1 128 191
    ·simp
     exact tail _ (by simp) (by simp) (by simp) (by simp) (by simp)
    ·simp
   ·simp[hi,hc,h1,h2,h3]
    exact tail _ (by simp) (by simp) (by simp) (by simp) (by simp)
  ·simp[hi,hc,h1,h2]
   exact tail _ (by simp) (by simp) (by simp) (by simp) (by simp)
end Go.Proofs.YtfilonnphgnplaaGreatDoor.Pv
set_option maxRecDepth 100000
namespace Go.Proofs.YtfilonnphgnplaaGreatDoor.Pv
open Go Go.Tidy
theorem utfL_nil (n:Nat):utfL n []=true:=by cases n<;>simp[utfL]
theorem utfL_fuel:∀ (n m:Nat) (l:List UInt8),l.length≤n→l.length≤m→utfL n l=utfL m l
 | _,_,[],_,_=>by rw[utfL_nil,utfL_nil]
 | 0,_,c::l,h,_=>by simp at h
 | _,0,c::l,_,h=>by simp at h
 | n+1,m+1,c::l,h,h'=>by
   simp only[utfL]
   by_cases hw:width (c::l)=0
   ·simp[hw]
   ·have h1:=width_len (c::l)
    have:utfL n ((c::l).drop (width (c::l)))=utfL m ((c::l).drop (width (c::l))):=by
     apply utfL_fuel
     ·simp only[List.length_drop] at *; omega
     ·simp only[List.length_drop] at *; omega
    rw[this]
theorem utfL_step {l:List UInt8} (hl:l≠[]):utfL l.length l=(width l != 0&&utfL (l.drop (width l)).length (l.drop (width l))):=by
 cases l with
 | nil=>exact absurd rfl hl
 | cons c l =>
   show utfL (l.length+1) (c::l)=_
   simp only[utfL,List.isEmpty_cons,Bool.false_or]
   by_cases hw:width (c::l)=0
   ·simp[hw]
   ·congr 1
    exact utfL_fuel _ _ _ (by simp only[List.length_drop,List.length_cons]; omega) (Nat.le_refl _)
theorem c_ref03_UTF (a:S):Ret prog M.F_ref03_UTF [.str a] (.bool (utfB a)):=by
 obtain⟨l,rfl⟩ : ∃ l,a=bs l:=⟨a.data.toList,by simp[bs]⟩
 refine Ret.go hmix h_ref03_UTF (by simp) fun hb w0 F0 hG=>?_
 simp only[bndL,bndV,bs_size,LIM,and_true] at hb
 have e:utfB (bs l)=utfL l.length l:=by simp[utfB,bs]
 rw[e]
 simp
 obtain⟨J,hJ⟩ : ∃ J:Nat→Prop,J=fun i=>i≤l.length∧utfL l.length l=utfL (l.drop i).length (l.drop i):=⟨_,rfl⟩
 refine XLoop.go hmix (fun i:Nat=>⟨[(3,.int .i64 i),(0,.str (bs l))],[]⟩) J (fun i=>l.length-i) 0 (by simp[hJ]) (by simp) fun i hj=>?_
 obtain⟨hi,hj'⟩ : i≤l.length∧utfL l.length l=utfL (l.drop i).length (l.drop i):=by rw[hJ] at hj; exact hj
 by_cases h1:i<l.length
 ·have hne:l.drop i≠[]:=by simp; omega
  simp[h1]
  refine XCall.ret (c_ref03_width l i h1) ?_
  have hwl:=width_len (l.drop i)
  simp only[List.length_drop] at hwl
  rw[utfL_step hne] at hj'
  by_cases hw:width (l.drop i)=0
  ·simp[hw,hj']
  ·have w1:=wrap64 (n:=(i:Int)+width (l.drop i)) (by omega) (by omega)
   have e1:((i:Int)+(width (l.drop i):Int))=((i+width (l.drop i):Nat):Int):=by omega
   simp[hw,w1]
   refine⟨i+width (l.drop i),?_,by omega,by omega⟩
   rw[hJ]
   refine⟨by omega,?_⟩
   rw[hj']
   simp[hw,Nat.add_comm]
 ·have:l.drop i=[]:=by simp; omega
  simp[h1,hj',this,utfL_nil]
theorem riseB_at {l:List S} {i:Nat} (hi:i<l.length):riseB l=true→utfB l[i]=true∧∀ h:0<i,sLt (l[i-1]'(by omega)) l[i]=true:=by
 intro h
 induction l generalizing i with
 | nil=>simp at hi
 | cons a l ih =>
   cases l with
   | nil =>
     have:i=0:=by simp at hi; exact hi
     subst this; simp[riseB] at h; simp[h]
   | cons b l =>
     simp[riseB] at h
     cases i with
     | zero=>exact⟨h.1.1,fun h'=>absurd h' (by omega)⟩
     | succ i =>
       have:=ih (i:=i) (by simpa using hi) h.2
       refine⟨this.1,fun _=>?_⟩
       cases i with
       | zero=>exact h.1.2
       | succ j=>exact this.2 (by omega)
theorem riseB_of {l:List S} (h:∀ i (hi:i<l.length),utfB l[i]=true∧∀ h:0<i,sLt (l[i-1]'(by omega)) l[i]=true):riseB l=true:=by
 induction l with
 | nil=>rfl
 | cons a l ih =>
   cases l with
   | nil=>simpa[riseB] using (h 0 (by simp)).1
   | cons b l =>
     simp only[riseB,Bool.and_eq_true]
     refine⟨⟨(h 0 (by simp)).1,(h 1 (by simp)).2 (by omega)⟩,ih fun i hi=>?_⟩
     have:=h (i+1) (by simpa using hi)
     refine⟨this.1,fun h'=>?_⟩
     have h2:=this.2 (by omega)
     cases i with
     | zero=>omega
     | succ j=>exact h2
def RiseTo (l:List S) (i:Nat):Prop:=∀ j (hj:j<l.length),j<i→utfB l[j]=true∧∀ h:0<j,sLt (l[j-1]'(by omega)) l[j]=true
theorem RiseTo.step {l:List S} {i:Nat} (h:RiseTo l i) (hi:i<l.length) (h1:utfB l[i]=true) (h2:∀ h:0<i,sLt (l[i-1]'(by omega)) l[i]=true):RiseTo l (i+1):=by
 intro j hj hlt
 by_cases e:j=i
 ·subst e; exact⟨h1,h2⟩
 ·exact h j hj (by omega)
theorem c_ref03_Rise (l:List S):Ret prog M.F_ref03_Rise [.vec 1 false (l.map encStr)] (.bool (riseB l)):=by
 refine Ret.go hmix h_ref03_Rise (by simp) fun hb w0 F0 hG=>?_
 simp only[bndL,bndV,List.length_map,LIM,and_true] at hb
 simp
 obtain⟨J,hJ⟩ : ∃ J:Nat→Unit→Prop,J=fun k _=>RiseTo l k:=⟨_,rfl⟩
 refine XLoop.cnt hmix l.length (fun k _=>⟨[(3,.int .i64 k),(0,.vec 1 false (l.map encStr))],[]⟩) J () (by rw[hJ]; intro j _ h; omega) (by simp) fun k _ hk hj=>?_
 have hw:=wrap64 (n:=(k:Int)+1) (by omega) (by omega)
 have hj' : RiseTo l k:=by rw[hJ] at hj; exact hj
 by_cases h1:k<l.length
 ·simp[h1,hw]
  refine XCall.ret (c_ref03_UTF l[k]) ?_
  by_cases hu:utfB l[k]=true
  ·by_cases h0:0<k
   ·have w1:=wrap64 (n:=(k:Int)-1) (by omega) (by omega)
    have e1:((k:Int)-1).toNat=k-1:=by omega
    have e2:(0:Int)≤(k:Int)-1:=by omega
    have e3:k-1<l.length:=by omega
    have e4:(k:Int)-1<l.length:=by omega
    have e5:(1:Int)≤k:=by omega
    by_cases hs:sLt l[k-1] l[k]=true
    ·have hs':=hs
     simp[hu,h0,w1,e1,e2,e3,e4,e5,h1,hs,hw]
     refine⟨(),?_⟩
     rw[hJ]
     exact hj'.step h1 hu fun _=>hs
    ·have:riseB l=false:=by
        cases hr:riseB l with
        | false=>rfl
        | true=>exact absurd ((riseB_at h1 hr).2 h0) hs
     simp[hu,h0,w1,e1,e2,e3,e4,e5,h1,hs,this]
   ·have h0' : k=0:=by omega
    subst h0'
    have w0' : IntKind.i64.wrap 1=1:=wrap64 (by omega) (by omega)
    simp[hu,h1,w0']
    refine⟨(),?_⟩
    rw[hJ]
    exact hj'.step h1 hu fun h=>absurd h (by omega)
  ·have:riseB l=false:=by
      cases hr:riseB l with
      | false=>rfl
      | true=>exact absurd (riseB_at h1 hr).1 hu
   simp[hu,this]
 ·have:riseB l=true:=riseB_of fun i hi=>hj' i hi (by omega)
  simp[h1,this]
end Go.Proofs.YtfilonnphgnplaaGreatDoor.Pv
set_option maxRecDepth 100000
namespace Go.Proofs.YtfilonnphgnplaaGreatDoor.Pv
open Go Go.Tidy
theorem len0b {α:Type} (l:List α):(((l.length:Nat):Int) == 0)=l.isEmpty:=by cases l<;>simp<;>omega
theorem decNil {α:Type} (l:List α) [Decidable (l=[])]:decide (l=[])=l.isEmpty:=by cases l<;>simp
theorem c_ref09_Bare (t:Ty):Ret prog M.F_ref09_Bare [.agg (cT t)] (.bool (bare t)):=by
 refine Ret.go hmix h_ref09_Bare (by simp) fun hb w0 F0 hG=>?_
 simp[bare,len0b,decNil]
theorem c_ref09_Never (t:Ty):Ret prog M.F_ref09_Never [.agg (cT t)] (.bool (never t)):=by
 refine Ret.go hmix h_ref09_Never (by simp) fun hb w0 F0 hG=>?_
 unfold never
 cases h:t.all
 ·simp[h]
  intro v
  refine XCall.ret (by have:=c_ref09_Bare t; unfold cT at this; rw[h] at this; exact this) ?_
  simp
 ·simp[h]
theorem c_ref09_bound (s:S):Ret prog M.F_ref09_bound [.str s] (.bool (boundB s)):=by
 refine Ret.go hmix h_ref09_bound (by simp) fun hb w0 F0 hG=>?_
 unfold boundB
 cases h:sEmp s
 ·simp[h]
  refine XCall.ret (c_ref03_Number s) ?_
  simp
 ·simp[h]
def AllTo {α:Type} (p:α→Bool) (l:List α) (k:Nat):Prop:=∀ j (hj:j<l.length),j<k→p l[j]=true
theorem AllTo.zero {α:Type} {p:α→Bool} {l:List α}:AllTo p l 0:=fun _ _ h=>absurd h (by omega)
theorem AllTo.step {α:Type} {p:α→Bool} {l:List α} {k:Nat} (h:AllTo p l k) (hk:k<l.length) (hp:p l[k]=true):AllTo p l (k+1):=fun j hj hlt=>by
 by_cases e:j=k
 ·subst e; exact hp
 ·exact h j hj (by omega)
theorem AllTo.all {α:Type} {p:α→Bool} {l:List α} {k:Nat} (h:AllTo p l k) (hk:¬ k<l.length):l.all p=true:=by
 rw[List.all_eq_true]
 intro x hx
 obtain⟨j,hj,rfl⟩:=List.getElem_of_mem hx
 exact h j hj (by omega)
theorem all_not {α:Type} {p:α→Bool} {l:List α} {k:Nat} (hk:k<l.length) (h:p l[k]=false):l.all p=false:=by
 rw[List.all_eq_false]
 exact⟨l[k],List.getElem_mem hk,by simp[h]⟩
set_option maxHeartbeats 4000000 in
theorem c_ref09_Spans (l:List Span):Ret prog M.F_ref09_Spans [.vec 2 false (l.map encSpan)] (.bool (decide (l.length≤1)&&l.all spanB)):=by
 refine Ret.go hmix h_ref09_Spans (by simp) fun hb w0 F0 hG=>?_
 simp only[bndL,bndV,List.length_map,LIM,and_true] at hb
 by_cases h0:l.length≤1
 ·have h0' : ¬ (1:Int)<l.length:=by omega
  generalize hB:l.all spanB=B
  obtain⟨J,hJ⟩ : ∃ J:Nat→Unit→Prop,J=fun k _=>AllTo spanB l k:=⟨_,rfl⟩
  simp[h0,h0']
  refine XLoop.cnt hmix l.length (fun k _=>⟨[(3,.int .i64 k),(0,.vec 2 false (l.map encSpan))],[]⟩) J () (by rw[hJ]; exact .zero) (by simp) fun k _ hk hj=>?_
  have hw:=wrap64 (n:=(k:Int)+1) (by omega) (by omega)
  have hj' : AllTo spanB l k:=by rw[hJ] at hj; exact hj
  by_cases h1:k<l.length
  ·have no:spanB l[k]=false→B=false:=fun h=>hB ▸ all_not h1 h
   have hs:spanB l[k]=(boundB l[k].low&&boundB l[k].high&&(sEmp l[k].low||sEmp l[k].high||(numCmp l[k].low l[k].high).isLE)):=rfl
   simp[h1,hw]
   refine XCall.ret (c_ref09_bound l[k].low) ?_
   cases b1:boundB l[k].low
   ·rw[b1] at hs
    simp[no (by rw[hs]; rfl)]
   ·simp[h1]
    refine XCall.ret (c_ref09_bound l[k].high) ?_
    cases b2:boundB l[k].high
    ·rw[b1,b2] at hs
     simp[no (by rw[hs]; rfl)]
    ·rw[b1,b2] at hs
     cases e1:sEmp l[k].low
     ·cases e2:sEmp l[k].high
      ·simp (maxSteps:=10000000) [h1,hw,e1,e2]
       intros
       refine XDCall.ret (c_ref03_Numbers _ _ (by simpa[boundB,e1] using b1) (by simpa[boundB,e2] using b2)) ?_
       rw[e1,e2] at hs
       cases hc:numCmp l[k].low l[k].high with
       | gt =>
         rw[hc] at hs
         simp[oInt,no (by rw[hs]; rfl)]
       | lt =>
         rw[hc] at hs
         simp[oInt,hw]
         first|refine⟨(),?_⟩|refine⟨h1,(),?_⟩
         rw[hJ]; exact hj'.step h1 (by rw[hs]; rfl)
       | eq =>
         rw[hc] at hs
         simp[oInt,hw]
         first|refine⟨(),?_⟩|refine⟨h1,(),?_⟩
         rw[hJ]; exact hj'.step h1 (by rw[hs]; rfl)
      ·simp (maxSteps:=10000000) [h1,hw,e1,e2]
       first|refine⟨(),?_⟩|refine⟨h1,(),?_⟩
       rw[hJ]; exact hj'.step h1 (by rw[hs,e1,e2]; rfl)
     ·simp (maxSteps:=10000000) [h1,hw,e1]
      first|refine⟨(),?_⟩|refine⟨h1,(),?_⟩
      rw[hJ]; exact hj'.step h1 (by rw[hs,e1]; rfl)
  ·simp[h1,← hB,hj'.all h1]
 ·have h0' : (1:Int)<l.length:=by omega
  simp[h0,h0']
end Go.Proofs.YtfilonnphgnplaaGreatDoor.Pv
set_option maxRecDepth 100000
namespace Go.Proofs.YtfilonnphgnplaaGreatDoor.Pv
open Go Go.Tidy
set_option maxHeartbeats 4000000 in
theorem formed_arrays (l:List Arr) (ih:∀ a∈l,Ret prog M.F_ref09_Formed [.agg (cT a.item)] (.bool (formedT a.item))):Ret prog M.F_ref09_arrays [.vec 11 false (l.map encArr)] (.bool (decide (l.length≤1)&&l.all formedA)):=by
 refine Ret.go hmix h_ref09_arrays (by simp) fun hb w0 F0 hG=>?_
 simp only[bndL,bndV,List.length_map,LIM,and_true] at hb
 by_cases h0:l.length≤1
 ·have h0' : ¬ (1:Int)<l.length:=by omega
  generalize hB:l.all formedA=B
  obtain⟨J,hJ⟩ : ∃ J:Nat→Unit→Prop,J=fun k _=>AllTo formedA l k:=⟨_,rfl⟩
  simp[h0,h0']
  refine XLoop.cnt hmix l.length (fun k _=>⟨[(3,.int .i64 k),(0,.vec 11 false (l.map encArr))],[]⟩) J () (by rw[hJ]; exact .zero) (by simp) fun k _ hk hj=>?_
  have hw:=wrap64 (n:=(k:Int)+1) (by omega) (by omega)
  have hj' : AllTo formedA l k:=by rw[hJ] at hj; exact hj
  by_cases h1:k<l.length
  ·have no:formedA l[k]=false→B=false:=fun h=>hB ▸ all_not h1 h
   have hs:formedA l[k]=(decide (0≤l[k].min)&&decide (-1≤l[k].max)&&(decide (l[k].max<0)||decide (l[k].min≤l[k].max))&&formedT l[k].item&&(never l[k].item == decide (l[k].max=0))):=by
    cases l[k]; rfl
   have ih':=ih l[k] (List.getElem_mem h1)
   by_cases g1:l[k].min<0
   ·have g1' : ¬ 0≤l[k].min:=by omega
    simp[h1,g1,no (by rw[hs]; simp[g1'])]
   by_cases g2:l[k].max < -1
   ·have g2' : ¬ -1≤l[k].max:=by omega
    simp[h1,g1,g2,no (by rw[hs]; simp[g2'])]
   have g1' : 0≤l[k].min:=by omega
   have g2' : -1≤l[k].max:=by omega
   by_cases g34:0≤l[k].max∧l[k].max<l[k].min
   ·obtain⟨g3,g4⟩:=g34
    have g3' : ¬ l[k].max<0:=by omega
    have g4' : ¬ l[k].min≤l[k].max:=by omega
    simp[h1,g1,g2,g3,g4,no (by rw[hs]; simp[g3',g4'])]
   have g6:(decide (l[k].max<0)||decide (l[k].min≤l[k].max))=true:=by simp; omega
   rw[g6,decide_eq_true g1',decide_eq_true g2'] at hs
   by_cases g3:0≤l[k].max
   rotate_left
   ·have g5:¬ l[k].max=0:=by omega
    simp[h1,g1,g2,g3]
    intros
    refine XDCall.ret ih' ?_
    cases hf:formedT l[k].item
    ·simp[no (by rw[hs,hf]; simp)]
    ·simp[h1]
     refine XDCall.ret (c_ref09_Never l[k].item) ?_
     rw[hf] at hs
     cases hn:never l[k].item<;>rw[hn] at hs
     ·simp[g5,h1,hw]
      exact⟨(),by rw[hJ]; exact hj'.step h1 (by rw[hs]; simp[g5])⟩
     ·simp[g5,h1,no (by rw[hs]; simp[g5])]
   ·have g4:¬ l[k].max<l[k].min:=by omega
    simp[h1,g1,g2,g3,g4]
    intros
    refine XDCall.ret ih' ?_
    cases hf:formedT l[k].item
    ·simp[no (by rw[hs,hf]; simp)]
    ·simp[h1]
     refine XDCall.ret (c_ref09_Never l[k].item) ?_
     rw[hf] at hs
     cases hn:never l[k].item<;>rw[hn] at hs
     ·by_cases g5:l[k].max=0
      ·simp[g5,h1,no (by rw[hs]; simp[g5])]
      ·simp[g5,h1,hw]
       exact⟨(),by rw[hJ]; exact hj'.step h1 (by rw[hs]; simp[g5])⟩
     ·by_cases g5:l[k].max=0
      ·simp[g5,h1,hw]
       exact⟨(),by rw[hJ]; exact hj'.step h1 (by rw[hs]; simp[g5])⟩
      ·simp[g5,h1,no (by rw[hs]; simp[g5])]
  ·simp[h1,← hB,hj'.all h1]
 ·have h0' : (1:Int)<l.length:=by omega
  simp[h0,h0']
set_option maxHeartbeats 4000000 in
theorem formed_object (o:Ob) (ih:∀ t∈o.fields,Ret prog M.F_ref09_Formed [.agg (cT t)] (.bool (formedT t))) (ihr:Ret prog M.F_ref09_Formed [.agg (cT o.rest)] (.bool (formedT o.rest))):Ret prog M.F_ref09_object [.agg (cO o)] (.bool (formedO o)):=by
 refine Ret.go hmix h_ref09_object (by simp) fun hb w0 F0 hG=>?_
 simp only[bndL,bndV,List.length_map,LIM,and_true] at hb
 have hO:formedO o=(decide (o.names.length=o.fields.length)&&decide (o.names.length=o.must.length)&&riseB o.names&&formedT o.rest&&formedTs o.fields&&(o.fields.zip o.must).all (fun p=>!p.2||!never p.1)):=by
  cases o; rfl
 generalize hB:formedO o=B at *
 by_cases g1:o.names.length=o.fields.length
 rotate_left
 ·have g1' : ¬ (o.names.length:Int)=o.fields.length:=by omega
  simp[g1,g1',show B=false by rw[hO]; simp[g1]]
 have g1' : (o.names.length:Int)=o.fields.length:=by omega
 by_cases g2:o.names.length=o.must.length
 rotate_left
 ·have g2' : ¬ (o.names.length:Int)=o.must.length:=by omega
  simp[← g1,g2,g2',show B=false by rw[hO]; simp[g2]]
 have g2' : (o.names.length:Int)=o.must.length:=by omega
 simp[← g1,← g2]
 intro v
 refine XCall.ret (c_ref03_Rise o.names) ?_
 cases hr:riseB o.names
 ·simp[show B=false by rw[hO,hr]; simp]
 simp
 refine XCall.ret ihr ?_
 cases hf:formedT o.rest
 ·simp[show B=false by rw[hO,hf]; simp]
 simp
 rw[decide_eq_true g1,decide_eq_true g2,hr,hf,formedTs_all] at hO
 obtain⟨J,hJ⟩ : ∃ J:Nat→Unit→Prop,J=fun k _=>AllTo formedT o.fields k∧AllTo (fun p:Ty × Bool=>!p.2||!never p.1) (o.fields.zip o.must) k:=⟨_,rfl⟩
 refine XLoop.cnt hmix o.fields.length (fun k _=>⟨[(3,.int .i64 k),(1,.ptr (1,v) 12 0 0)],[((1,v),some ⟨12,[cO o],false,true⟩)]⟩) J () (by rw[hJ]; exact⟨.zero,.zero⟩) (by simp) fun k _ hk hj=>?_
 have hw:=wrap64 (n:=(k:Int)+1) (by omega) (by omega)
 obtain⟨j1,j2⟩ : AllTo formedT o.fields k∧AllTo (fun p:Ty × Bool=>!p.2||!never p.1) (o.fields.zip o.must) k:=by rw[hJ] at hj; exact hj
 by_cases h1:k<o.fields.length
 ·have h2:k<o.must.length:=by omega
  have h3:k<(o.fields.zip o.must).length:=by simp; omega
  have hz:(o.fields.zip o.must)[k]=(o.fields[k],o.must[k]):=by simp
  simp[h1]
  refine XCall.ret (ih o.fields[k] (List.getElem_mem h1)) ?_
  cases e1:formedT o.fields[k]
  ·simp[show B=false by rw[hO,all_not h1 e1]; simp]
  cases e2:o.must[k]
  ·simp[h1,h2,e2,hw]
   refine⟨(),?_⟩
   rw[hJ]; exact⟨j1.step h1 e1,j2.step h3 (by rw[hz]; simp[e2])⟩
  ·simp[h1,h2,e2]
   refine XCall.ret (c_ref09_Never o.fields[k]) ?_
   cases e3:never o.fields[k]
   ·simp[hw]
    refine⟨h1,(),?_⟩
    rw[hJ]; exact⟨j1.step h1 e1,j2.step h3 (by rw[hz]; simp[e3])⟩
   ·simp[show B=false by rw[hO,all_not h3 (by rw[hz]; simp[e2,e3])]; simp]
 ·have:B=true:=by rw[hO,j1.all h1,j2.all (by simp; omega)]; rfl
  simp[h1,this]
theorem formed_objects (l:List Ob) (ih:∀ o∈l,Ret prog M.F_ref09_object [.agg (cO o)] (.bool (formedO o))):Ret prog M.F_ref09_objects [.vec 12 false (l.map encObj)] (.bool (l.all formedO)):=by
 refine Ret.go hmix h_ref09_objects (by simp) fun hb w0 F0 hG=>?_
 simp only[bndL,bndV,List.length_map,LIM,and_true] at hb
 generalize hB:l.all formedO=B
 obtain⟨J,hJ⟩ : ∃ J:Nat→Unit→Prop,J=fun k _=>AllTo formedO l k:=⟨_,rfl⟩
 simp
 refine XLoop.cnt hmix l.length (fun k _=>⟨[(3,.int .i64 k),(0,.vec 12 false (l.map encObj))],[]⟩) J () (by rw[hJ]; exact .zero) (by simp) fun k _ hk hj=>?_
 have hw:=wrap64 (n:=(k:Int)+1) (by omega) (by omega)
 have hj' : AllTo formedO l k:=by rw[hJ] at hj; exact hj
 by_cases h1:k<l.length
 ·have no:formedO l[k]=false→B=false:=fun h=>hB ▸ all_not h1 h
  simp[h1]
  refine XCall.ret (ih l[k] (List.getElem_mem h1)) ?_
  cases e1:formedO l[k]
  ·simp[no e1]
  ·simp[hw]
   exact⟨h1,(),by rw[hJ]; exact hj'.step h1 e1⟩
 ·simp[h1,← hB,hj'.all h1]
end Go.Proofs.YtfilonnphgnplaaGreatDoor.Pv
set_option maxRecDepth 100000
namespace Go.Proofs.YtfilonnphgnplaaGreatDoor.Pv
open Go Go.Tidy
theorem formedT_def (t:Ty):formedT t=((!t.all||bare t)&&riseB t.texts&&(!t.any||t.texts.isEmpty)&&(decide (t.nums.length≤1)&&t.nums.all spanB)&&(decide (t.arrays.length≤1)&&t.arrays.all formedA)&&t.objects.all formedO):=by
 cases t
 simp only[formedT,formedAs_all,formedOs_all,Ty.all,Ty.any,Ty.nums,Ty.texts,Ty.arrays,Ty.objects,Bool.and_assoc]
 rfl
theorem formed_step (t:Ty) (ha:∀ a∈t.arrays,Ret prog M.F_ref09_Formed [.agg (cT a.item)] (.bool (formedT a.item))) (ho:∀ o∈t.objects,Ret prog M.F_ref09_object [.agg (cO o)] (.bool (formedO o))):Ret prog M.F_ref09_Formed [.agg (cT t)] (.bool (formedT t)):=by
 refine Ret.go hmix h_ref09_Formed (by simp) fun hb w0 F0 hG=>?_
 have hB:=formedT_def t
 generalize formedT t=B at *
 have bare':=c_ref09_Bare t
 unfold cT at bare'
 have r1:=c_ref03_Rise t.texts
 have r2:=c_ref09_Spans t.nums
 have r3:=formed_arrays t.arrays ha
 have r4:=formed_objects t.objects ho
 cases h1:t.all<;>rw[h1] at hB bare'
 ·simp[h1]
  intro v
  refine XCall.ret r1 ?_
  cases h2:riseB t.texts<;>rw[h2] at hB
  ·simp[show B=false by rw[hB]; simp]
  cases h3:t.any<;>rw[h3] at hB
  ·simp[h3]
   refine XCall.ret r2 ?_
   generalize (decide (t.nums.length≤1)&&t.nums.all spanB)=p at *
   cases p
   ·simp[show B=false by rw[hB]; simp]
   simp
   refine XCall.ret r3 ?_
   generalize (decide (t.arrays.length≤1)&&t.arrays.all formedA)=p at *
   cases p
   ·simp[show B=false by rw[hB]; simp]
   simp
   refine XCall.ret r4 ?_
   simp[show B=t.objects.all formedO by rw[hB]; simp]
  ·cases h4:t.texts.isEmpty<;>rw[h4] at hB
   ·have h4' : 0<t.texts.length:=by cases ht:t.texts with|nil=>rw[ht] at h4; simp at h4|cons=>simp
    have h4'' : (0:Int)<t.texts.length:=by omega
    simp[h3,h4',h4'',show B=false by rw[hB]; simp]
   ·have h4' : ¬ 0<t.texts.length:=by cases ht:t.texts with|nil=>simp|cons=>rw[ht] at h4; simp at h4
    have h4'' : ¬ (0:Int)<t.texts.length:=by omega
    simp[h3,h4',h4'']
    refine XCall.ret r2 ?_
    generalize (decide (t.nums.length≤1)&&t.nums.all spanB)=p at *
    cases p
    ·simp[show B=false by rw[hB]; simp]
    simp
    refine XCall.ret r3 ?_
    generalize (decide (t.arrays.length≤1)&&t.arrays.all formedA)=p at *
    cases p
    ·simp[show B=false by rw[hB]; simp]
    simp
    refine XCall.ret r4 ?_
    simp[show B=t.objects.all formedO by rw[hB]; simp]
 ·simp[h1]
  intro v
  refine XCall.ret bare' ?_
  cases h5:bare t<;>rw[h5] at hB
  ·simp[show B=false by rw[hB]; simp]
  ·simp
   refine XCall.ret r1 ?_
   cases h2:riseB t.texts<;>rw[h2] at hB
   ·simp[show B=false by rw[hB]; simp]
   cases h3:t.any<;>rw[h3] at hB
   ·simp[h3]
    refine XCall.ret r2 ?_
    generalize (decide (t.nums.length≤1)&&t.nums.all spanB)=p at *
    cases p
    ·simp[show B=false by rw[hB]; simp]
    simp
    refine XCall.ret r3 ?_
    generalize (decide (t.arrays.length≤1)&&t.arrays.all formedA)=p at *
    cases p
    ·simp[show B=false by rw[hB]; simp]
    simp
    refine XCall.ret r4 ?_
    simp[show B=t.objects.all formedO by rw[hB]; simp]
   ·cases h4:t.texts.isEmpty<;>rw[h4] at hB
    ·have h4' : 0<t.texts.length:=by cases ht:t.texts with|nil=>rw[ht] at h4; simp at h4|cons=>simp
     have h4'' : (0:Int)<t.texts.length:=by omega
     simp[h3,h4',h4'',show B=false by rw[hB]; simp]
    ·have h4' : ¬ 0<t.texts.length:=by cases ht:t.texts with|nil=>simp|cons=>rw[ht] at h4; simp at h4
     have h4'' : ¬ (0:Int)<t.texts.length:=by omega
     simp[h3,h4',h4'']
     refine XCall.ret r2 ?_
     generalize (decide (t.nums.length≤1)&&t.nums.all spanB)=p at *
     cases p
     ·simp[show B=false by rw[hB]; simp]
     simp
     refine XCall.ret r3 ?_
     generalize (decide (t.arrays.length≤1)&&t.arrays.all formedA)=p at *
     cases p
     ·simp[show B=false by rw[hB]; simp]
     simp
     refine XCall.ret r4 ?_
     simp[show B=t.objects.all formedO by rw[hB]; simp]
theorem c_ref09_Formed (t:Ty):Ret prog M.F_ref09_Formed [.agg (cT t)] (.bool (formedT t)):=by
 induction hn:SizeOf.sizeOf t using Nat.strongRecOn generalizing t with
 | _ n ih =>
   subst hn
   refine formed_step t (fun a ha=>ih _ (sz_item ha) a.item rfl) fun o ho=>formed_object o (fun x hx=>ih _ (sz_field ho hx) x rfl) (ih _ (sz_rest ho) o.rest rfl)
end Go.Proofs.YtfilonnphgnplaaGreatDoor.Pv
set_option maxRecDepth 100000
namespace Go.Proofs.YtfilonnphgnplaaGreatDoor.Pv
open Go Go.Tidy
theorem heightAs_take:∀ {l:List Arr} {k:Nat} (hk:k<l.length),heightAs (l.take (k+1))=max (heightAs (l.take k)) (heightT l[k].item+1)
 | .mk t _ _::l,0,_=>by simp[heightAs,Arr.item]
 | .mk t _ _::l,k+1,h=>by
   have:=heightAs_take (l:=l) (k:=k) (by simpa using h)
   simp only[List.take_succ_cons,heightAs,List.getElem_cons_succ]
   rw[this]; omega
theorem heightTs_take:∀ {l:List Ty} {k:Nat} (hk:k<l.length),heightTs (l.take (k+1))=max (heightTs (l.take k)) (heightT l[k]+1)
 | t::l,0,_=>by simp[heightTs]
 | t::l,k+1,h=>by
   have:=heightTs_take (l:=l) (k:=k) (by simpa using h)
   simp only[List.take_succ_cons,heightTs,List.getElem_cons_succ]
   rw[this]; omega
theorem heightOs_take:∀ {l:List Ob} {k:Nat} (hk:k<l.length),heightOs (l.take (k+1))=max (heightOs (l.take k)) (max (heightT l[k].rest+1) (heightTs l[k].fields))
 | .mk _ fs _ r::l,0,_=>by simp[heightOs,Ob.rest,Ob.fields]
 | .mk _ fs _ r::l,k+1,h=>by
   have:=heightOs_take (l:=l) (k:=k) (by simpa using h)
   simp only[List.take_succ_cons,heightOs,List.getElem_cons_succ]
   rw[this]; omega
theorem heightT_def (t:Ty):heightT t=max (heightAs t.arrays) (heightOs t.objects):=by cases t; rfl
theorem heightAs_mem {l:List Arr} {a:Arr} (h:a∈l):heightT a.item+1≤heightAs l:=by
 induction l with
 | nil=>simp at h
 | cons b l ih =>
   obtain⟨t,lo,hi⟩:=b
   rcases List.mem_cons.1 h with rfl|h
   ·simp only[heightAs,Arr.item]; omega
   ·have:=ih h; simp only[heightAs]; omega
theorem heightTs_mem {l:List Ty} {a:Ty} (h:a∈l):heightT a+1≤heightTs l:=by
 induction l with
 | nil=>simp at h
 | cons b l ih =>
   rcases List.mem_cons.1 h with rfl|h
   ·simp only[heightTs]; omega
   ·have:=ih h; simp only[heightTs]; omega
theorem heightOs_mem {l:List Ob} {a:Ob} (h:a∈l):heightT a.rest+1≤heightOs l∧heightTs a.fields≤heightOs l:=by
 induction l with
 | nil=>simp at h
 | cons b l ih =>
   obtain⟨ns,fs,ms,r⟩:=b
   rcases List.mem_cons.1 h with rfl|h
   ·simp only[heightOs,Ob.rest,Ob.fields]; omega
   ·have:=ih h; simp only[heightOs]; omega
theorem higher_step (h:Nat) (t:Ty) (ht:heightT t<2 ^ 62) (ih:Ret prog M.F_ref09_Height [.agg (cT t)] (.int .i64 (heightT t:Nat))):Ret prog M.F_ref09_higher [.int .i64 h,.agg (cT t)] (.int .i64 (max h (heightT t+1):Nat)):=by
 refine Ret.go hmix h_ref09_higher (by simp) fun hb w0 F0 hG=>?_
 have w1:=wrap64 (n:=(heightT t:Int)+1) (by omega) (by omega)
 simp
 intro v
 refine XCall.ret ih ?_
 by_cases g:h<heightT t+1
 ·have g' : (h:Int)<(heightT t:Int)+1:=by omega
  simp[w1,g']
  omega
 ·have g' : ¬ (h:Int)<(heightT t:Int)+1:=by omega
  simp[w1,g']
  omega
set_option maxHeartbeats 4000000 in
theorem height_step (t:Ty) (ht:heightT t<2 ^ 62) (ha:∀ a∈t.arrays,∀ h:Nat,Ret prog M.F_ref09_higher [.int .i64 h,.agg (cT a.item)] (.int .i64 (max h (heightT a.item+1):Nat)))
 (hr:∀ o∈t.objects,∀ h:Nat,Ret prog M.F_ref09_higher [.int .i64 h,.agg (cT o.rest)] (.int .i64 (max h (heightT o.rest+1):Nat)))
 (hf:∀ o∈t.objects,∀ x∈o.fields,∀ h:Nat,Ret prog M.F_ref09_higher [.int .i64 h,.agg (cT x)] (.int .i64 (max h (heightT x+1):Nat))) :
 Ret prog M.F_ref09_Height [.agg (cT t)] (.int .i64 (heightT t:Nat)):=by
 refine Ret.go hmix h_ref09_Height (by simp) fun hb w0 F0 hG=>?_
 simp only[bndL,bndV,List.length_map,LIM,and_true] at hb
 have hd:=heightT_def t
 generalize heightT t=H at *
 simp
 intro v
 obtain⟨J,hJ⟩ : ∃ J:Nat→Nat→Prop,J=fun k m=>m=heightAs (t.arrays.take k):=⟨_,rfl⟩
 refine XLoop.cnt hmix t.arrays.length (fun k m=>⟨[(4,.int .i64 k),(3,.int .i64 (m:Nat)),(1,.ptr (1,v) 9 0 0)],[((1,v),some ⟨9,[cT t],false,true⟩)]⟩) J 0 (by simp[hJ,heightAs]) (by simp) fun k m hk hj=>?_
 have hw:=wrap64 (n:=(k:Int)+1) (by omega) (by omega)
 have hj' : m=heightAs (t.arrays.take k):=by rw[hJ] at hj; exact hj
 by_cases h1:k<t.arrays.length
 ·simp[h1]
  refine XCall.ret (ha t.arrays[k] (List.getElem_mem h1) m) ?_
  simp[hw]
  refine⟨h1,max m (heightT t.arrays[k].item+1),?_,rfl⟩
  rw[hJ]
  show _=heightAs _
  rw[heightAs_take h1,hj']
 ·have hm:m=heightAs t.arrays:=by rw[hj',List.take_of_length_le (by omega)]
  simp[h1]
  clear hj hj' hJ J
  obtain⟨J,hJ⟩ : ∃ J:Nat→Nat→Prop,J=fun k n=>n=max m (heightOs (t.objects.take k)):=⟨_,rfl⟩
  refine XLoop.cnt hmix t.objects.length (fun k n=>⟨[(5,.int .i64 k),(3,.int .i64 (n:Nat)),(1,.ptr (1,v) 9 0 0)],[((1,v),some ⟨9,[cT t],false,true⟩)]⟩) J m (by simp[hJ,heightOs]) (by simp) fun i n hi hj=>?_
  have hw:=wrap64 (n:=(i:Int)+1) (by omega) (by omega)
  have hj' : n=max m (heightOs (t.objects.take i)):=by rw[hJ] at hj; exact hj
  by_cases h2:i<t.objects.length
  ·simp[h2]
   refine XCall.ret (hr t.objects[i] (List.getElem_mem h2) n) ?_
   simp
   obtain⟨J',hJ'⟩ : ∃ J:Nat→Nat→Prop,J=fun j p=>p=max (max n (heightT t.objects[i].rest+1)) (heightTs (t.objects[i].fields.take j)):=⟨_,rfl⟩
   refine XLoop.cnt hmix t.objects[i].fields.length (fun j p=>⟨[(6,.int .i64 j),(5,.int .i64 i),(3,.int .i64 (p:Nat)),(1,.ptr (1,v) 9 0 0)],[((1,v),some ⟨9,[cT t],false,true⟩)]⟩) J' (max n (heightT t.objects[i].rest+1)) (by simp[hJ',heightTs]) (by simp) fun j p hj2 hjj=>?_
   have hbo:t.objects[i].fields.length≤140737488355328:=by
    have:=bndR_map hb.2.2.2.2.2.2.2.2.2 t.objects[i] (List.getElem_mem h2)
    simp only[encObj_eq,bndL,bndV,List.length_map,LIM,and_true] at this
    omega
   have hw':=wrap64 (n:=(j:Int)+1) (by omega) (by omega)
   have hjj' : p=max (max n (heightT t.objects[i].rest+1)) (heightTs (t.objects[i].fields.take j)):=by rw[hJ'] at hjj; exact hjj
   by_cases h3:j<t.objects[i].fields.length
   ·simp[h2,h3]
    refine XCall.ret (hf t.objects[i] (List.getElem_mem h2) t.objects[i].fields[j] (List.getElem_mem h3) p) ?_
    simp[hw']
    refine⟨h3,max p (heightT t.objects[i].fields[j]+1),?_,rfl⟩
    rw[hJ']
    show _=max _ (heightTs _)
    rw[heightTs_take h3,hjj']
    omega
   ·have hp:p=max (max n (heightT t.objects[i].rest+1)) (heightTs t.objects[i].fields):=by rw[hjj',List.take_of_length_le (by omega)]
    simp[h2,h3,hw]
    refine⟨p,?_,rfl⟩
    rw[hJ]
    show _=max _ (heightOs _)
    rw[heightOs_take h2,hp,hj']
    omega
  ·have hn:n=H:=by rw[hj',List.take_of_length_le (by omega),hd,hm]
   simp[h2,hn]
theorem c_ref09_Height (t:Ty) (ht:heightT t<2 ^ 62):Ret prog M.F_ref09_Height [.agg (cT t)] (.int .i64 (heightT t:Nat)):=by
 induction hn:SizeOf.sizeOf t using Nat.strongRecOn generalizing t with
 | _ n ih =>
   subst hn
   have hd:=heightT_def t
   refine height_step t ht (fun a ha h=>?_) (fun o ho h=>?_) fun o ho x hx h=>?_
   ·have:=heightAs_mem ha
    have h2:heightT a.item<2 ^ 62:=by omega
    exact higher_step h a.item h2 (ih _ (sz_item ha) a.item h2 rfl)
   ·have:=(heightOs_mem ho).1
    have h2:heightT o.rest<2 ^ 62:=by omega
    exact higher_step h o.rest h2 (ih _ (sz_rest ho) o.rest h2 rfl)
   ·have h3:=(heightOs_mem ho).2
    have h4:=heightTs_mem hx
    have h2:heightT x<2 ^ 62:=by omega
    exact higher_step h x h2 (ih _ (sz_field ho hx) x h2 rfl)
end Go.Proofs.YtfilonnphgnplaaGreatDoor.Pv
set_option maxRecDepth 100000
namespace Go.Proofs.YtfilonnphgnplaaGreatDoor.Pv
open Go Go.Tidy
theorem find_at {α:Type} {p:α→Bool}:∀ {l:List α} {k:Nat} (hk:k<l.length),AllTo (fun x=>!p x) l k→p l[k]=true→l.find? p=some l[k]
 | a::l,0,_,_,h=>by simp at h; simp[h]
 | a::l,k+1,hk,ha,h=>by
   have h0:p a=false:=by have:=ha 0 (by simp) (by omega); rw[Bool.not_eq_true'] at this; exact this
   have:=find_at (l:=l) (k:=k) (by simpa using hk) (fun j hj hlt=>ha (j+1) (by simpa using hj) (by omega)) (by simpa using h)
   simp only[List.find?_cons,h0,this,List.getElem_cons_succ]
theorem find_no {α:Type} {p:α→Bool} {l:List α} {k:Nat} (ha:AllTo (fun x=>!p x) l k) (hk:¬ k<l.length):l.find? p=none:=by
 have:=ha.all hk
 simpa[List.all_eq_true] using this
theorem c_ref12_Field (o:Ob) (n:S) (h1:o.names.length=o.fields.length) (h2:o.names.length=o.must.length):Ret prog M.F_ref12_Field [.agg (cO o),.str n] (.tup [.agg (cT (fieldO o n).1),.bool (fieldO o n).2]):=by
 refine Ret.go hmix h_ref12_Field (by simp) fun hb w0 F0 hG=>?_
 simp only[bndL,bndV,List.length_map,LIM,and_true] at hb
 have hf:fieldO o n=(match (o.names.zip (o.fields.zip o.must)).find? (fun p=>sEq p.1 n) with|some p=>p.2|none=>(o.rest,false)):=rfl
 generalize fieldO o n=R at *
 simp
 intro v1 v2
 obtain⟨J,hJ⟩ : ∃ J:Nat→Unit→Prop,J=fun k _=>AllTo (fun p:S × Ty × Bool=>!sEq p.1 n) (o.names.zip (o.fields.zip o.must)) k:=⟨_,rfl⟩
 refine XLoop.cnt hmix o.names.length (fun k _=>⟨[(6,.int .i64 k),(1,.str n),(2,.ptr (2,v1) 12 0 0),(4,.ptr (4,v2) 9 0 0)],[((2,v1),some ⟨12,[cO o],false,true⟩),((4,v2),some ⟨9,[cT tNever],false,true⟩)]⟩) J () (by rw[hJ]; exact .zero) (by simp[tNever,Ty.all,Ty.null,Ty.fls,Ty.tru,Ty.nums,Ty.any,Ty.texts,Ty.arrays,Ty.objects]) fun k _ hk hj=>?_
 have hw:=wrap64 (n:=(k:Int)+1) (by omega) (by omega)
 have hj' : AllTo (fun p:S × Ty × Bool=>!sEq p.1 n) (o.names.zip (o.fields.zip o.must)) k:=by rw[hJ] at hj; exact hj
 by_cases g1:k<o.names.length
 ·have g2:k<o.fields.length:=by omega
  have g3:k<o.must.length:=by omega
  have g4:k<(o.names.zip (o.fields.zip o.must)).length:=by simp; omega
  have hz:(o.names.zip (o.fields.zip o.must))[k]=(o.names[k],o.fields[k],o.must[k]):=by simp
  cases e1:sEq o.names[k] n
  ·simp[g1,e1,hw]
   exact⟨(),by rw[hJ]; exact hj'.step g4 (by rw[hz]; simp[e1])⟩
  ·have hR:R=(o.fields[k],o.must[k]):=by
      rw[hf,find_at g4 hj' (by rw[hz]; exact e1),hz]
   simp[g1,g2,g3,e1,hR]
 ·have hR:R=(o.rest,false):=by rw[hf,find_no hj' (by simp; omega)]
  simp[g1,hR]
theorem c_ref09_Has (l:List S) (s:S):Ret prog M.F_ref09_Has [.vec 1 false (l.map encStr),.str s] (.bool (l.any fun u=>sEq u s)):=by
 refine Ret.go hmix h_ref09_Has (by simp) fun hb w0 F0 hG=>?_
 simp only[bndL,bndV,List.length_map,LIM,and_true] at hb
 generalize hB:(l.any fun u=>sEq u s)=B
 obtain⟨J,hJ⟩ : ∃ J:Nat→Unit→Prop,J=fun k _=>AllTo (fun u=>!sEq u s) l k:=⟨_,rfl⟩
 simp
 refine XLoop.cnt hmix l.length (fun k _=>⟨[(5,.int .i64 k),(1,.str s),(0,.vec 1 false (l.map encStr))],[]⟩) J () (by rw[hJ]; exact .zero) (by simp) fun k _ hk hj=>?_
 have hw:=wrap64 (n:=(k:Int)+1) (by omega) (by omega)
 have hj' : AllTo (fun u=>!sEq u s) l k:=by rw[hJ] at hj; exact hj
 by_cases g1:k<l.length
 ·cases e1:sEq l[k] s
  ·simp[g1,e1,hw]
   exact⟨(),by rw[hJ]; exact hj'.step g1 (by simp[e1])⟩
  ·have:B=true:=by rw[← hB,List.any_eq_true]; exact⟨l[k],List.getElem_mem g1,e1⟩
   simp[g1,e1,this]
 ·have:B=false:=by
     rw[← hB,List.any_eq_false]
     have:=hj'.all g1
     simpa[List.all_eq_true] using this
  simp[g1,this]
theorem c_ref12_Hollow (s:Span) (h1:boundB s.low=true) (h2:boundB s.high=true):Ret prog M.F_ref12_Hollow [.agg (encSpan s)] (.bool (hollow s)):=by
 refine Ret.go hmix h_ref12_Hollow (by simp) fun hb w0 F0 hG=>?_
 unfold hollow
 cases e1:sEmp s.low
 ·cases e2:sEmp s.high
  ·simp[e1,e2]
   intro v
   refine XCall.ret (c_ref03_Numbers _ _ (boundB_num h1 e1) (boundB_num h2 e2)) ?_
   cases numCmp s.low s.high<;>simp[oInt]
  ·simp[e1,e2]
 ·simp[e1]
end Go.Proofs.YtfilonnphgnplaaGreatDoor.Pv
set_option maxRecDepth 100000
namespace Go.Proofs.YtfilonnphgnplaaGreatDoor.Pv
open Go Go.Tidy
theorem c_ref12_Span (a b:Span) (a1:boundB a.low=true) (a2:boundB a.high=true) (b1:boundB b.low=true) (b2:boundB b.high=true):Ret prog M.F_ref12_Span [.agg (encSpan a),.agg (encSpan b)] (.bool (spanIn a b)):=by
 refine Ret.go hmix h_ref12_Span (by simp) fun hb w0 F0 hG=>?_
 unfold spanIn
 simp
 intro v1 v2
 refine XCall.ret (c_ref12_Hollow a a1 a2) ?_
 cases e0:hollow a
 ·cases e1:sEmp b.low
  ·cases e2:sEmp a.low
   ·simp[e1,e2]
    refine XCall.ret (c_ref03_Numbers _ _ (boundB_num a1 e2) (boundB_num b1 e1)) ?_
    cases numCmp a.low b.low
    ·simp[oInt]
    ·simp[oInt]
     cases e3:sEmp b.high
     ·cases e4:sEmp a.high
      ·simp[e3,e4]
       refine XCall.ret (c_ref03_Numbers _ _ (boundB_num a2 e4) (boundB_num b2 e3)) ?_
       cases numCmp a.high b.high<;>simp[oInt]
      ·simp[e3,e4]
     ·simp[e3]
    ·simp[oInt]
     cases e3:sEmp b.high
     ·cases e4:sEmp a.high
      ·simp[e3,e4]
       refine XCall.ret (c_ref03_Numbers _ _ (boundB_num a2 e4) (boundB_num b2 e3)) ?_
       cases numCmp a.high b.high<;>simp[oInt]
      ·simp[e3,e4]
     ·simp[e3]
   ·simp[e1,e2]
  ·simp[e1]
   cases e3:sEmp b.high
   ·cases e4:sEmp a.high
    ·simp[e3,e4]
     refine XCall.ret (c_ref03_Numbers _ _ (boundB_num a2 e4) (boundB_num b2 e3)) ?_
     cases numCmp a.high b.high<;>simp[oInt]
    ·simp[e3,e4]
   ·simp[e3]
 ·simp
theorem c_ref12_Laid (t:Ty):Ret prog M.F_ref12_Laid [.agg (cT t)] (.agg (cT (laidT t))):=by
 refine Ret.go hmix h_ref12_Laid (by simp) fun hb w0 F0 hG=>?_
 unfold laidT
 cases e:t.all
 ·simp[e]
 ·simp[e]
  refine⟨rfl,rfl,rfl,rfl,rfl,rfl,rfl,?_,?_⟩<;>simp[laidAll,tEvery,Ty.all,Ty.null,Ty.fls,Ty.tru,Ty.nums,Ty.any,Ty.texts,Ty.arrays,Ty.objects,Arr.item,Arr.min,Arr.max,Ob.names,Ob.fields,Ob.must,Ob.rest]
theorem c_ref12_texts (a b:Ty):Ret prog M.F_ref12_texts [.agg (cT a),.agg (cT b)] (.bool (textsIn a b)):=by
 refine Ret.go hmix h_ref12_texts (by simp) fun hb w0 F0 hG=>?_
 simp only[bndL,bndV,List.length_map,LIM,and_true] at hb
 unfold textsIn
 cases e1:b.any
 ·cases e2:a.any
  ·simp[e1,e2]
   intro v1 v2
   generalize hB:(a.texts.all fun s=>b.texts.any fun u=>sEq u s)=B
   obtain⟨J,hJ⟩ : ∃ J:Nat→Unit→Prop,J=fun k _=>AllTo (fun s=>b.texts.any fun u=>sEq u s) a.texts k:=⟨_,rfl⟩
   refine XLoop.cnt hmix a.texts.length (fun k _=>⟨[(5,.int .i64 k),(2,.ptr (2,v1) 9 0 0),(3,.ptr (3,v2) 9 0 0)],[((3,v2),some ⟨9,[cT b],false,true⟩),((2,v1),some ⟨9,[cT a],false,true⟩)]⟩) J () (by rw[hJ]; exact .zero) (by simp[e1,e2]) fun k _ hk hj=>?_
   have hw:=wrap64 (n:=(k:Int)+1) (by omega) (by omega)
   have hj' : AllTo (fun s=>b.texts.any fun u=>sEq u s) a.texts k:=by rw[hJ] at hj; exact hj
   by_cases g1:k<a.texts.length
   ·simp[g1]
    intros
    refine XDCall.ret (c_ref09_Has b.texts a.texts[k]) ?_
    cases e3:(b.texts.any fun u=>sEq u a.texts[k])
    ·have:B=false:=hB ▸ all_not g1 e3
     simp[this]
    ·simp[g1,hw]
     exact⟨(),by rw[hJ]; exact hj'.step g1 e3⟩
   ·have:B=true:=hB ▸ hj'.all g1
    simp[g1,this]
  ·simp[e1,e2]
 ·simp[e1]
end Go.Proofs.YtfilonnphgnplaaGreatDoor.Pv
set_option maxRecDepth 100000
namespace Go.Proofs.YtfilonnphgnplaaGreatDoor.Pv
open Go Go.Tidy
theorem rows_step {α:Type} (f:α→List PV) (l:List α) (k:Nat) (h:k<l.length):((l.map f).take k).take k++[f l[k]]=(l.map f).take (k+1):=by
 rw[List.take_take,Nat.min_self,List.take_succ_eq_append_getElem (by simpa using h)]
 simp
theorem rows_step2 {α:Type} (f:α→List PV) (p:List (List PV)) (l:List α) (k n:Nat) (hn:n=p.length+k) (h:k<l.length):(p++(l.map f).take k).take n++[f l[k]]=p++(l.map f).take (k+1):=by
 subst hn
 rw[List.take_of_length_le (by simp; omega),List.append_assoc,← rows_step f l k h,List.take_take,Nat.min_self]
set_option maxHeartbeats 1000000 in
theorem c_ref12_Names (a b:Ob) (h:a.names.length+b.names.length≤68719476736):RetO prog M.F_ref12_Names [.agg (cO a),.agg (cO b)] 1 ((a.names++b.names).map encStr):=by
 refine RetO.go hmix h_ref12_Names (by simp) fun hb w0 F0 hG=>?_
 simp only[bndL,bndV,List.length_map,LIM,and_true] at hb
 simp
 intro v1 v2 v3
 obtain⟨J,hJ⟩ : ∃ J:Nat→Nat × Nat→Prop,J=fun _ g=>g.1=8∨g.1=23:=⟨_,rfl⟩
 refine XLoop.cnt hmix a.names.length (fun k g=>⟨[(6,.int .i64 k),(5,.own g 1 0 k false),(2,.ptr (2,v1) 12 0 0),(3,.ptr (3,v2) 12 0 0)],[(g,some ⟨1,(a.names.map encStr).take k,false,false⟩),((3,v2),some ⟨12,[cO b],false,true⟩),((2,v1),some ⟨12,[cO a],false,true⟩)]⟩) J (8,v3) (by simp[hJ]) (by simp) fun k g hk hj=>?_
 have hw:=wrap64 (n:=(k:Int)+1) (by omega) (by omega)
 have hj' : g.1=8∨g.1=23:=by rw[hJ] at hj; exact hj
 obtain⟨x,y⟩:=g
 by_cases h1:k<a.names.length
 ·have e:=rows_step encStr a.names k h1
  simp only[encStr] at e
  rcases hj' with rfl|rfl
  ·simp[h1,hw]
   intro v v'
   refine⟨by omega,23,v',by rw[hJ]; exact .inr rfl,⟨rfl,rfl⟩,?_⟩
   simp only[e]
   simp[leR_refl]
  ·simp[h1,hw]
   intro v v'
   refine⟨by omega,23,v',by rw[hJ]; exact .inr rfl,⟨rfl,rfl⟩,?_⟩
   simp only[e]
   simp[leR_refl]
 ·have hkn:k=a.names.length:=by omega
  subst hkn
  obtain⟨J',hJ'⟩ : ∃ J:Nat→Nat × Nat→Prop,J=fun _ g=>g.1=8∨g.1=23∨g.1=38:=⟨_,rfl⟩
  rcases hj' with rfl|rfl
  ·simp
   have e0:(a.names.map encStr).take a.names.length=a.names.map encStr:=List.take_of_length_le (by simp)
   refine XLoop.cnt hmix b.names.length (fun k g=>⟨[(7,.int .i64 k),(5,.own g 1 0 (a.names.length+k) false),(2,.ptr (2,v1) 12 0 0),(3,.ptr (3,v2) 12 0 0)],[(g,some ⟨1,a.names.map encStr++(b.names.map encStr).take k,false,false⟩),((3,v2),some ⟨12,[cO b],false,true⟩),((2,v1),some ⟨12,[cO a],false,true⟩)]⟩) J' (8,y) (by simp[hJ']) (by simp[leR_refl,e0]) fun k g hk hj=>?_
   have hw2:=wrap64 (n:=(k:Int)+1) (by omega) (by omega)
   have hj2:g.1=8∨g.1=23∨g.1=38:=by rw[hJ'] at hj; exact hj
   obtain⟨x,y⟩:=g
   by_cases h2:k<b.names.length
   ·have e2:=rows_step2 encStr (a.names.map encStr) b.names k (a.names.length+k) (by simp) h2
    simp only[encStr] at e2
    rcases hj2 with rfl|rfl|rfl
    ·simp[h2,hw2]
     intro v v'
     refine⟨by omega,38,v',by rw[hJ']; exact .inr (.inr rfl),⟨⟨rfl,rfl⟩,by omega⟩,?_⟩
     simp only[e2]
     simp[leR_refl]
    ·simp[h2,hw2]
     intro v v'
     refine⟨by omega,38,v',by rw[hJ']; exact .inr (.inr rfl),⟨⟨rfl,rfl⟩,by omega⟩,?_⟩
     simp only[e2]
     simp[leR_refl]
    ·simp[h2,hw2]
     intro v v'
     refine⟨by omega,38,v',by rw[hJ']; exact .inr (.inr rfl),⟨⟨rfl,rfl⟩,by omega⟩,?_⟩
     simp only[e2]
     simp[leR_refl]
   ·have hkn:k=b.names.length:=by omega
    subst hkn
    have e4:(a.names.map encStr++b.names.map encStr).take (a.names.length+b.names.length)=a.names.map encStr++b.names.map encStr:=List.take_of_length_le (by simp)
    have e3:(b.names.map encStr).take b.names.length=b.names.map encStr:=List.take_of_length_le (by simp)
    rcases hj2 with rfl|rfl|rfl
    ·simp[e3,e4]
    ·simp[e3,e4]
    ·simp[e3,e4]
  ·simp
   have e0:(a.names.map encStr).take a.names.length=a.names.map encStr:=List.take_of_length_le (by simp)
   refine XLoop.cnt hmix b.names.length (fun k g=>⟨[(7,.int .i64 k),(5,.own g 1 0 (a.names.length+k) false),(2,.ptr (2,v1) 12 0 0),(3,.ptr (3,v2) 12 0 0)],[(g,some ⟨1,a.names.map encStr++(b.names.map encStr).take k,false,false⟩),((3,v2),some ⟨12,[cO b],false,true⟩),((2,v1),some ⟨12,[cO a],false,true⟩)]⟩) J' (23,y) (by simp[hJ']) (by simp[leR_refl,e0]) fun k g hk hj=>?_
   have hw2:=wrap64 (n:=(k:Int)+1) (by omega) (by omega)
   have hj2:g.1=8∨g.1=23∨g.1=38:=by rw[hJ'] at hj; exact hj
   obtain⟨x,y⟩:=g
   by_cases h2:k<b.names.length
   ·have e2:=rows_step2 encStr (a.names.map encStr) b.names k (a.names.length+k) (by simp) h2
    simp only[encStr] at e2
    rcases hj2 with rfl|rfl|rfl
    ·simp[h2,hw2]
     intro v v'
     refine⟨by omega,38,v',by rw[hJ']; exact .inr (.inr rfl),⟨⟨rfl,rfl⟩,by omega⟩,?_⟩
     simp only[e2]
     simp[leR_refl]
    ·simp[h2,hw2]
     intro v v'
     refine⟨by omega,38,v',by rw[hJ']; exact .inr (.inr rfl),⟨⟨rfl,rfl⟩,by omega⟩,?_⟩
     simp only[e2]
     simp[leR_refl]
    ·simp[h2,hw2]
     intro v v'
     refine⟨by omega,38,v',by rw[hJ']; exact .inr (.inr rfl),⟨⟨rfl,rfl⟩,by omega⟩,?_⟩
     simp only[e2]
     simp[leR_refl]
   ·have hkn:k=b.names.length:=by omega
    subst hkn
    have e4:(a.names.map encStr++b.names.map encStr).take (a.names.length+b.names.length)=a.names.map encStr++b.names.map encStr:=List.take_of_length_le (by simp)
    have e3:(b.names.map encStr).take b.names.length=b.names.map encStr:=List.take_of_length_le (by simp)
    rcases hj2 with rfl|rfl|rfl
    ·simp[e3,e4]
    ·simp[e3,e4]
    ·simp[e3,e4]
end Go.Proofs.YtfilonnphgnplaaGreatDoor.Pv
set_option maxRecDepth 100000
namespace Go.Proofs.YtfilonnphgnplaaGreatDoor.Pv
open Go Go.Tidy
def arrIn (a b:Arr):Bool:=!(decide (b.min > a.min)||(decide (0≤b.max)&&(decide (a.max<0)||decide (a.max > b.max))))&&(decide (a.max=0)||belT b.item a.item)
def arrsIn (a b:List Arr):Bool:=a.isEmpty||(match b,a with|y::_,z::_=>arrIn z y|_,_=>false)
set_option maxHeartbeats 4000000 in
theorem below_arrays (a b:Ty) (ih:∀ x∈a.arrays,∀ y∈b.arrays,Ret prog M.F_ref12_Below [.agg (cT x.item),.agg (cT y.item)] (.bool (belT y.item x.item))):Ret prog M.F_ref12_arrays [.agg (cT a),.agg (cT b)] (.bool (arrsIn a.arrays b.arrays)):=by
 refine Ret.go hmix h_ref12_arrays (by simp) fun hb w0 F0 hG=>?_
 have hb0:=hb
 clear hb0
 generalize hA:a.arrays=la at *
 generalize hB:b.arrays=lb at *
 cases la with
 | nil=>simp[arrsIn,hA]
 | cons x la =>
   have na:¬ ((la.length:Int)+1=0):=by omega
   cases lb with
   | nil=>simp[arrsIn,hA,hB,na]
   | cons y lb =>
     have nb:¬ ((lb.length:Int)+1=0):=by omega
     have ih':=ih x (by simp) y (by simp)
     simp only[arrsIn,List.isEmpty_cons,Bool.false_or,arrIn]
     by_cases g1:x.min<y.min
     ·simp[hA,hB,na,nb,g1]
     by_cases g2:0≤y.max
     ·by_cases g3:x.max<0
      ·simp[hA,hB,na,nb,g1,g2,g3]
      by_cases g4:y.max<x.max
      ·simp[hA,hB,na,nb,g1,g2,g3,g4]
      by_cases g5:x.max=0
      ·simp[hA,hB,na,nb,g1,g2,g3,g4,g5]
      ·simp[hA,hB,na,nb,g1,g2,g3,g4,g5]
       intros
       refine XCall.ret ih' ?_
       simp[g5]
     ·by_cases g5:x.max=0
      ·simp[hA,hB,na,nb,g1,g2,g5]
      ·simp[hA,hB,na,nb,g1,g2,g5]
       intros
       refine XCall.ret ih' ?_
       simp[g5]
set_option maxHeartbeats 4000000 in
theorem below_objects (a b:Ty) (ih:∀ x∈a.objects,∀ y∈b.objects,Ret prog M.F_ref12_Lies [.agg (cO x),.agg (cO y)] (.bool (belO y x))):Ret prog M.F_ref12_objects [.agg (cT a),.agg (cT b)] (.bool (a.objects.all fun x=>b.objects.any fun y=>belO y x)):=by
 refine Ret.go hmix h_ref12_objects (by simp) fun hb w0 F0 hG=>?_
 simp only[bndL,bndV,List.length_map,LIM,and_true] at hb
 generalize hB:(a.objects.all fun x=>b.objects.any fun y=>belO y x)=B
 simp
 intro v1 v2
 obtain⟨J,hJ⟩ : ∃ J:Nat→Unit→Prop,J=fun k _=>AllTo (fun x=>b.objects.any fun y=>belO y x) a.objects k:=⟨_,rfl⟩
 refine XLoop.cnt hmix a.objects.length (fun k _=>⟨[(5,.int .i64 k),(2,.ptr (2,v1) 9 0 0),(3,.ptr (3,v2) 9 0 0)],[((3,v2),some ⟨9,[cT b],false,true⟩),((2,v1),some ⟨9,[cT a],false,true⟩)]⟩) J () (by rw[hJ]; exact .zero) (by simp) fun k _ hk hj=>?_
 have hw:=wrap64 (n:=(k:Int)+1) (by omega) (by omega)
 have hj' : AllTo (fun x=>b.objects.any fun y=>belO y x) a.objects k:=by rw[hJ] at hj; exact hj
 by_cases g1:k<a.objects.length
 ·simp[g1]
  obtain⟨J',hJ'⟩ : ∃ J:Nat→Bool→Prop,J=fun j p=>p=(b.objects.take j).any fun y=>belO y a.objects[k]:=⟨_,rfl⟩
  refine XLoop.cnt hmix b.objects.length (fun j p=>⟨[(7,.int .i64 j),(6,.bool p),(5,.int .i64 k),(2,.ptr (2,v1) 9 0 0),(3,.ptr (3,v2) 9 0 0)],[((3,v2),some ⟨9,[cT b],false,true⟩),((2,v1),some ⟨9,[cT a],false,true⟩)]⟩) J' false (by simp[hJ']) (by simp) fun j p hj0 hjj=>?_
  have hw':=wrap64 (n:=(j:Int)+1) (by omega) (by omega)
  have hjj' : p=(b.objects.take j).any fun y=>belO y a.objects[k]:=by rw[hJ'] at hjj; exact hjj
  by_cases g2:j<b.objects.length
  ·have hs:((b.objects.take (j+1)).any fun y=>belO y a.objects[k])=(p||belO b.objects[j] a.objects[k]):=by
      rw[List.take_succ_eq_append_getElem g2,List.any_append,hjj']; simp
   simp[g2]
   refine XCut.one hmix ⟨[(7,.int .i64 j),(6,.bool (p||belO b.objects[j] a.objects[k])),(5,.int .i64 k),(2,.ptr (2,v1) 9 0 0),(3,.ptr (3,v2) 9 0 0)],[((3,v2),some ⟨9,[cT b],false,true⟩),((2,v1),some ⟨9,[cT a],false,true⟩)]⟩ ?_ ?_
   ·simp[g1,g2]
    intros
    refine XDCall.ret (ih a.objects[k] (List.getElem_mem g1) b.objects[j] (List.getElem_mem g2)) ?_
    cases belO b.objects[j] a.objects[k]<;>simp
   ·simp[hw',g2]
    rw[hJ']
    exact hs.symm
  ·have hp:p=b.objects.any fun y=>belO y a.objects[k]:=by rw[hjj',List.take_of_length_le (by omega)]
   cases hq:(b.objects.any fun y=>belO y a.objects[k])<;>rw[hq] at hp<;>subst hp
   ·have:B=false:=hB ▸ all_not g1 hq
    simp[g2,this]
   ·simp[g2,hw,g1]
    exact⟨(),by rw[hJ]; exact hj'.step g1 hq⟩
 ·have:B=true:=hB ▸ hj'.all g1
  simp[g1,this]
end Go.Proofs.YtfilonnphgnplaaGreatDoor.Pv
set_option maxRecDepth 100000
namespace Go.Proofs.YtfilonnphgnplaaGreatDoor.Pv
open Go Go.Tidy
theorem belTs_map (l:List Ty):belTs l=l.map fun t=>(fun x=>belT t x):=by
 induction l with
 | nil=>simp[belTs]
 | cons a l ih=>simp[belTs,ih]
theorem zip3_map {α β γ δ:Type} (f:β→δ):∀ (l:List α) (m:List β) (k:List γ),l.zip ((m.map f).zip k)=(l.zip (m.zip k)).map fun p=>(p.1,f p.2.1,p.2.2)
 | [],_,_=>by simp
 | _::_,[],_=>by simp
 | _::_,_::_,[]=>by simp
 | a::l,b::m,c::k=>by simp[zip3_map f l m k]
def fieldIn (y x:Ob) (n:S):Bool:=(!(fieldO y n).2||(fieldO x n).2)&&belT (fieldO y n).1 (fieldO x n).1
theorem belO_def (y x:Ob):belO y x=((x.names++y.names).all (fieldIn y x)&&belT y.rest x.rest):=by
 obtain⟨ns,fs,ms,r⟩:=y
 simp only[belO,Ob.names,Ob.rest]
 congr 1
 congr 1
 funext n
 rw[belTs_map,zip3_map,List.find?_map]
 simp only[fieldIn,fieldO,Ob.names,Ob.fields,Ob.must,Ob.rest]
 have e:((fun p:S × (Ty→Bool) × Bool=>sEq p.1 n)∘fun p:S × Ty × Bool=>(p.1,(fun x=>belT p.2.1 x),p.2.2))=fun p=>sEq p.1 n:=rfl
 rw[e]
 cases (ns.zip (fs.zip ms)).find? (fun p=>sEq p.1 n)<;>simp
set_option maxHeartbeats 4000000 in
theorem below_lies (x y:Ob) (hl:x.names.length+y.names.length≤68719476736) (x1:x.names.length=x.fields.length) (x2:x.names.length=x.must.length) (y1:y.names.length=y.fields.length) (y2:y.names.length=y.must.length)
 (ih:∀ n,Ret prog M.F_ref12_Below [.agg (cT (fieldO x n).1),.agg (cT (fieldO y n).1)] (.bool (belT (fieldO y n).1 (fieldO x n).1))) (ihr:Ret prog M.F_ref12_Below [.agg (cT x.rest),.agg (cT y.rest)] (.bool (belT y.rest x.rest))) :
 Ret prog M.F_ref12_Lies [.agg (cO x),.agg (cO y)] (.bool (belO y x)):=by
 refine Ret.go hmix h_ref12_Lies (by simp) fun hb w0 F0 hG=>?_
 simp only[bndL,bndV,List.length_map,LIM,and_true] at hb
 rw[belO_def]
 have hnm:=c_ref12_Names x y hl
 have hlN:(x.names++y.names).length≤68719476736:=by simpa using hl
 generalize x.names++y.names=N at *
 generalize hB:N.all (fieldIn y x)=B
 simp
 intro v1 v2
 refine XCall.retO hnm ?_
 intro v3 _
 simp
 obtain⟨J,hJ⟩ : ∃ J:Nat→Unit→Prop,J=fun k _=>AllTo (fieldIn y x) N k:=⟨_,rfl⟩
 refine XLoop.cnt hmix N.length (fun k _=>⟨[(6,.int .i64 k),(5,.own (13,v3) 1 0 N.length false),(2,.ptr (2,v1) 12 0 0),(3,.ptr (3,v2) 12 0 0)],[((13,v3),some ⟨1,N.map encStr,false,false⟩),((3,v2),some ⟨12,[cO y],false,true⟩),((2,v1),some ⟨12,[cO x],false,true⟩)]⟩) J () (by rw[hJ]; exact .zero) (by simp[leR_refl]) fun k _ hk hj=>?_
 have hw:=wrap64 (n:=(k:Int)+1) (by omega) (by omega)
 have hj' : AllTo (fieldIn y x) N k:=by rw[hJ] at hj; exact hj
 by_cases g1:k<N.length
 ·simp[g1]
  intros
  refine XDCall.ret (c_ref12_Field x N[k] x1 x2) ?_
  simp[g1]
  intros
  refine XDCall.ret (c_ref12_Field y N[k] y1 y2) ?_
  have hs:fieldIn y x N[k]=((!(fieldO y N[k]).2||(fieldO x N[k]).2)&&belT (fieldO y N[k]).1 (fieldO x N[k]).1):=rfl
  have ih':=ih N[k]
  generalize fieldO y N[k]=fy at *
  generalize fieldO x N[k]=fx at *
  obtain⟨ty,my⟩:=fy
  obtain⟨tx,mx⟩:=fx
  simp only at hs ih' ⊢
  have no:fieldIn y x N[k]=false→B=false:=fun h=>hB ▸ all_not g1 h
  cases my
  ·simp
   refine XCall.ret ih' ?_
   cases hbt:belT ty tx<;>rw[hbt] at hs
   ·simp[no (by rw[hs]; simp)]
   ·simp[hw,leR_refl]
    exact⟨g1,(),by rw[hJ]; exact hj'.step g1 (by rw[hs]; simp)⟩
  ·cases mx
   ·simp[no (by rw[hs]; simp)]
   ·simp
    refine XCall.ret ih' ?_
    cases hbt:belT ty tx<;>rw[hbt] at hs
    ·simp[no (by rw[hs]; simp)]
    ·simp[hw,leR_refl]
     exact⟨g1,(),by rw[hJ]; exact hj'.step g1 (by rw[hs]; simp)⟩
 ·have:N.all (fieldIn y x)=true:=hj'.all g1
  simp[g1]
  intros
  refine XCall.ret ihr ?_
  rw[hB] at this
  simp[this]
end Go.Proofs.YtfilonnphgnplaaGreatDoor.Pv
set_option maxRecDepth 100000
namespace Go.Proofs.YtfilonnphgnplaaGreatDoor.Pv
open Go Go.Tidy
theorem belOs_any (l:List Ob) (x:Ob):belOs l x=l.any fun y=>belO y x:=by
 induction l with
 | nil=>simp[belOs]
 | cons a l ih=>simp[belOs,ih]
theorem belA_def (y x:Arr):belA y x=arrIn x y:=by
 obtain⟨t,lo,hi⟩:=y
 obtain⟨t',lo',hi'⟩:=x
 simp only[belA,arrIn,Arr.min,Arr.max,Arr.item]
 rfl
def numsIn (a b:List Span):Bool:=a.isEmpty||(match b,a with|n::_,m::_=>spanIn m n|_,_=>false)
theorem belT_def (y x:Ty):belT y x=(never x||y.all||((!(laidT x).null||y.null)&&(!(laidT x).fls||y.fls)&&(!(laidT x).tru||y.tru)&&numsIn (laidT x).nums y.nums&&textsIn (laidT x) y&&arrsIn (laidT x).arrays y.arrays&&(laidT x).objects.all fun o=>y.objects.any fun p=>belO p o)):=by
 obtain⟨a,b,c,d,ns,e,ts,az,os⟩:=y
 simp only[belT]
 generalize laidT x=z
 obtain⟨a',b',c',d',ns',e',ts',az',os'⟩:=z
 have h1:(os'.all (belOs os))=(os'.all fun o=>os.any fun p=>belO p o):=by
  congr 1; funext o; exact belOs_any os o
 simp only[numsIn,arrsIn,Ty.all,Ty.null,Ty.fls,Ty.tru,Ty.nums,Ty.arrays,Ty.objects,h1]
 cases az<;>cases az'<;>simp[belA_def]<;>rfl
end Go.Proofs.YtfilonnphgnplaaGreatDoor.Pv
set_option maxRecDepth 100000
namespace Go.Proofs.YtfilonnphgnplaaGreatDoor.Pv
open Go Go.Tidy
def FitT (t:Ty):Prop:=formedT t=true∧nmT 34359738368 t=true
theorem FitT.item {t:Ty} (h:FitT t) {a:Arr} (ha:a∈t.arrays):FitT a.item:=by
 have h2:=h.2
 rw[nmT_def,Bool.and_eq_true] at h2
 exact⟨(formedA_spec ((formedT_spec h.1).2.2.2.2.2.2.1 a ha)).2.2.2.1,nmAs_mem h2.1 ha⟩
theorem FitT.rest {t:Ty} (h:FitT t) {o:Ob} (ho:o∈t.objects):FitT o.rest:=by
 have h2:=h.2
 rw[nmT_def,Bool.and_eq_true] at h2
 exact⟨(formedO_spec ((formedT_spec h.1).2.2.2.2.2.2.2 o ho)).2.2.2.1,(nmOs_mem h2.2 ho).2.2⟩
theorem FitT.field {t:Ty} (h:FitT t) {o:Ob} (ho:o∈t.objects) {f:Ty} (hf:f∈o.fields):FitT f:=by
 have h2:=h.2
 rw[nmT_def,Bool.and_eq_true] at h2
 exact⟨(formedO_spec ((formedT_spec h.1).2.2.2.2.2.2.2 o ho)).2.2.2.2.1 f hf,(nmOs_mem h2.2 ho).2.1 f hf⟩
theorem FitT.names {t:Ty} (h:FitT t) {o:Ob} (ho:o∈t.objects):o.names.length≤34359738368∧o.names.length=o.fields.length∧o.names.length=o.must.length:=by
 have h2:=h.2
 rw[nmT_def,Bool.and_eq_true] at h2
 have:=formedO_spec ((formedT_spec h.1).2.2.2.2.2.2.2 o ho)
 exact⟨(nmOs_mem h2.2 ho).1,this.1,this.2.1⟩
theorem fit_laidAll:FitT laidAll:=by
 refine⟨?_,?_⟩
 ·simp[laidAll,tEvery,formedT,formedAs,formedOs,formedA,formedO,formedTs,riseB,spanB,boundB,sEmp,never,bare,Ty.all,Ty.null,Ty.fls,Ty.tru,Ty.nums,Ty.any,Ty.texts,Ty.arrays,Ty.objects]
 ·simp[laidAll,tEvery,nmT,nmAs,nmOs,nmTs]
theorem FitT.laid {t:Ty} (h:FitT t):FitT (laidT t):=by
 unfold laidT
 split
 ·exact fit_laidAll
 ·exact h
theorem fieldO_mem (o:Ob) (n:S):(fieldO o n).1∈o.fields∨(fieldO o n).1=o.rest:=by
 unfold fieldO
 split
 ·rename_i p hp
  have hm:=List.mem_of_find?_eq_some hp
  obtain⟨a,b,c⟩:=p
  have h2:=(List.of_mem_zip hm).2
  exact .inl (List.of_mem_zip h2).1
 ·exact .inr rfl
end Go.Proofs.YtfilonnphgnplaaGreatDoor.Pv
set_option maxRecDepth 100000
namespace Go.Proofs.YtfilonnphgnplaaGreatDoor.Pv
open Go Go.Tidy
set_option maxHeartbeats 4000000 in
theorem below_step (x y:Ty) (fx:FitT x) (fy:FitT y) (ih:∀ y' : Ty,SizeOf.sizeOf y' < SizeOf.sizeOf y→FitT y'→∀ x',FitT x'→Ret prog M.F_ref12_Below [.agg (cT x'),.agg (cT y')] (.bool (belT y' x'))):Ret prog M.F_ref12_Below [.agg (cT x),.agg (cT y)] (.bool (belT y x)):=by
 refine Ret.go hmix h_ref12_Below (by simp) fun hb w0 F0 hG=>?_
 have hB:=belT_def y x
 generalize belT y x=B at *
 have r0:=c_ref12_Laid x
 have fz:=fx.laid
 generalize laidT x=z at *
 have r1:=c_ref12_texts z y
 have r2:=below_arrays z y fun a ha b hb'=>ih b.item (sz_item hb') (fy.item hb') a.item (fz.item ha)
 have r3:=below_objects z y fun a ha b hb'=>by
  obtain⟨a1,a2,a3⟩:=fz.names ha
  obtain⟨b1,b2,b3⟩:=fy.names hb'
  refine below_lies a b (by omega) a2 a3 b2 b3 (fun n=>?_) (ih b.rest (sz_rest hb') (fy.rest hb') a.rest (fz.rest ha))
  have fa:FitT (fieldO a n).1:=by
   rcases fieldO_mem a n with h|h
   ·exact fz.field ha h
   ·rw[h]; exact fz.rest ha
  rcases fieldO_mem b n with h|h
  ·exact ih _ (sz_field hb' h) (fy.field hb' h) _ fa
  ·rw[h]; exact ih _ (sz_rest hb') (fy.rest hb') _ fa
 simp
 intro v1 v2
 refine XCall.ret (c_ref09_Never x) ?_
 cases e1:never x
 ·cases e2:y.all
  ·simp[e2]
   refine XCall.ret r0 ?_
   simp[-XCond_bool]
   intro v3
   refine⟨?_,?_,?_,?_,?_⟩
   ·cases z.null<;>cases y.null<;>simp
   ·cases z.null<;>cases y.null<;>simp
   ·cases z.null<;>cases y.null<;>cases z.fls<;>cases y.fls<;>simp
   ·cases z.null<;>cases y.null<;>cases z.fls<;>cases y.fls<;>simp
   rw[XCond_bool]
   refine⟨fun hc=>?_,fun hc=>?_⟩
   ·have:B=false:=by
       rw[hB,e1,e2]
       revert hc
       cases z.null<;>cases y.null<;>cases z.fls<;>cases y.fls<;>cases z.tru<;>cases y.tru<;>simp
    simp[this]
   ·have hB' : B=(numsIn z.nums y.nums&&textsIn z y&&arrsIn z.arrays y.arrays&&z.objects.all fun o=>y.objects.any fun p=>belO p o):=by
       rw[hB,e1,e2]
       revert hc
       cases z.null<;>cases y.null<;>cases z.fls<;>cases y.fls<;>cases z.tru<;>cases y.tru<;>simp
    clear hB hc
    have hz:=formedT_spec fz.1
    have hy:=formedT_spec fy.1
    cases hzn:z.nums with
    | nil =>
      have k:numsIn z.nums y.nums=true:=by rw[hzn]; rfl
      rw[k] at hB'
      have hz0:z.nums.length=0:=by rw[hzn]; rfl
      simp[hz0]
      refine XCall.ret r1 ?_
      cases p1:textsIn z y<;>rw[p1] at hB'
      ·simp[show B=false by rw[hB']; simp]
      simp
      refine XCall.ret r2 ?_
      cases p2:arrsIn z.arrays y.arrays<;>rw[p2] at hB'
      ·simp[show B=false by rw[hB']; simp]
      simp
      refine XCall.ret r3 ?_
      rw[hB']
      simp
    | cons s l =>
      cases hyn:y.nums with
      | nil =>
        have k:numsIn z.nums y.nums=false:=by rw[hzn,hyn]; rfl
        rw[k] at hB'
        simp[hzn,hyn,hB']
      | cons s' l' =>
        have k:numsIn z.nums y.nums=spanIn s s':=by rw[hzn,hyn]; rfl
        rw[k] at hB'
        have q1:=hz.2.2.2.2.1 s (by rw[hzn]; simp)
        have q2:=hy.2.2.2.2.1 s' (by rw[hyn]; simp)
        simp only[spanB,Bool.and_eq_true] at q1 q2
        have n1:¬ ((l'.length:Int)+1=0):=by omega
        have n2:(0:Int)<(l.length:Int)+1:=by omega
        simp[hzn,hyn,n1,n2]
        intros
        refine XDCall.ret (c_ref12_Span s s' q1.1.1 q1.1.2 q2.1.1 q2.1.2) ?_
        cases hsp:spanIn s s'<;>rw[hsp] at hB'
        ·simp[n1,show B=false by rw[hB']; simp]
        ·simp[n1]
         refine XCall.ret r1 ?_
         cases p1:textsIn z y<;>rw[p1] at hB'
         ·simp[show B=false by rw[hB']; simp]
         simp
         refine XCall.ret r2 ?_
         cases p2:arrsIn z.arrays y.arrays<;>rw[p2] at hB'
         ·simp[show B=false by rw[hB']; simp]
         simp
         refine XCall.ret r3 ?_
         rw[hB']
         simp
  ·simp[e2,hB]
 ·simp[hB,e1]
theorem c_ref12_Below (x y:Ty) (fx:FitT x) (fy:FitT y):Ret prog M.F_ref12_Below [.agg (cT x),.agg (cT y)] (.bool (belT y x)):=by
 induction hn:SizeOf.sizeOf y using Nat.strongRecOn generalizing x y with
 | _ n ih =>
   subst hn
   exact below_step x y fx fy fun y' h fy' x' fx'=>ih _ h x' y' fx' fy' rfl
end Go.Proofs.YtfilonnphgnplaaGreatDoor.Pv
set_option maxRecDepth 100000
namespace Go.Proofs.YtfilonnphgnplaaGreatDoor.Pv
open Go Go.Tidy
theorem emp_eq:ByteArray.empty=⟨#[]⟩:=rfl
theorem c_ref11_low (a b:S) (ha:boundB a=true) (hb' : boundB b=true):Ret prog M.F_ref11_low [.str a,.str b] (.str (lowS a b)):=by
 refine Ret.go hmix h_ref11_low (by simp) fun hb w0 F0 hG=>?_
 unfold lowS
 rw[emp_eq]
 cases e1:sEmp a
 ·cases e2:sEmp b
  ·simp[e1,e2]
   refine XCall.ret (c_ref03_Numbers _ _ (boundB_num ha e1) (boundB_num hb' e2)) ?_
   cases numCmp a b<;>simp[oInt]
  ·simp[e1,e2]
 ·simp[e1]
theorem c_ref11_high (a b:S) (ha:boundB a=true) (hb' : boundB b=true):Ret prog M.F_ref11_high [.str a,.str b] (.str (highS a b)):=by
 refine Ret.go hmix h_ref11_high (by simp) fun hb w0 F0 hG=>?_
 unfold highS
 rw[emp_eq]
 cases e1:sEmp a
 ·cases e2:sEmp b
  ·simp[e1,e2]
   refine XCall.ret (c_ref03_Numbers _ _ (boundB_num ha e1) (boundB_num hb' e2)) ?_
   cases numCmp a b<;>simp[oInt]
  ·simp[e1,e2]
 ·simp[e1]
end Go.Proofs.YtfilonnphgnplaaGreatDoor.Pv
set_option maxRecDepth 100000
namespace Go.Proofs.YtfilonnphgnplaaGreatDoor.Pv
open Go Go.Tidy
theorem mergeS_r (l:List S):mergeS l []=l:=by cases l<;>simp[mergeS]
theorem mergeS_l (l:List S):mergeS [] l=l:=by simp[mergeS]
theorem mergeS_a {a b:List S} {i j:Nat} (hi:i<a.length) (h:j<b.length→sLt a[i] (b[j]?.getD ⟨#[]⟩)=true):mergeS (a.drop i) (b.drop j)=a[i]::mergeS (a.drop (i+1)) (b.drop j):=by
 rw[List.drop_eq_getElem_cons hi]
 by_cases hj:j<b.length
 ·have h':=h hj
  rw[List.getElem?_eq_getElem hj,Option.getD_some] at h'
  rw[List.drop_eq_getElem_cons hj,mergeS,if_pos h']
 ·rw[List.drop_eq_nil_of_le (by omega:b.length≤j),mergeS_r,mergeS_r]
theorem mergeS_b {a b:List S} {i j:Nat} (hj:j<b.length) (h:i<a.length→sLt (a[i]?.getD ⟨#[]⟩) b[j]=false∧sLt b[j] (a[i]?.getD ⟨#[]⟩)=true):mergeS (a.drop i) (b.drop j)=b[j]::mergeS (a.drop i) (b.drop (j+1)):=by
 rw[List.drop_eq_getElem_cons hj]
 by_cases hi:i<a.length
 ·obtain⟨h1,h2⟩:=h hi
  rw[List.getElem?_eq_getElem hi] at h1 h2
  simp only[Option.getD_some] at h1 h2
  rw[List.drop_eq_getElem_cons hi,mergeS,if_neg (by simp[h1]),if_pos h2]
 ·rw[List.drop_eq_nil_of_le (by omega:a.length≤i),mergeS_l,mergeS_l]
theorem mergeS_ab {a b:List S} {i j:Nat} (hi:i<a.length) (hj:j<b.length) (h1:sLt a[i] b[j]=false) (h2:sLt b[j] a[i]=false):mergeS (a.drop i) (b.drop j)=a[i]::mergeS (a.drop (i+1)) (b.drop (j+1)):=by
 rw[List.drop_eq_getElem_cons hi,List.drop_eq_getElem_cons hj,mergeS,if_neg (by simp[h1]),if_neg (by simp[h2])]
structure MW where
 i:Nat
 j:Nat
 acc:List S
theorem take_len {α β:Type} (f:α→β) (l:List α):(l.map f).take l.length=l.map f:=List.take_of_length_le (by simp)
attribute [simp] take_len
set_option maxHeartbeats 4000000 in
theorem c_ref11_texts (a b:List S) (hl:a.length+b.length≤68719476736):RetO prog M.F_ref11_texts [.vec 1 false (a.map encStr),.vec 1 false (b.map encStr)] 1 ((mergeS a b).map encStr):=by
 refine RetO.go hmix h_ref11_texts (by simp) fun hb w0 F0 hG=>?_
 generalize hR:mergeS a b=R
 simp
 intro v0
 obtain⟨J,hJ⟩ : ∃ J:MW→Prop,J=fun s=>s.i≤a.length∧s.j≤b.length∧R=s.acc++mergeS (a.drop s.i) (b.drop s.j)∧s.acc.length≤s.i+s.j:=⟨_,rfl⟩
 refine XLoop.goR hmix [(5,1,1005)] rfl (fun v (s:MW)=>⟨[(6,.int .i64 s.i),(7,.int .i64 s.j),(5,.own (1005,v) 1 0 s.acc.length false),(0,.vec 1 false (a.map encStr)),(1,.vec 1 false (b.map encStr))],[((1005,v),some ⟨1,s.acc.map encStr,false,false⟩)]⟩) J (fun s=>(a.length-s.i)+(b.length-s.j)) ⟨0,0,[]⟩ (by rw[hJ]; simp[hR]) (by simp) fun v s _ hj=>?_
 obtain⟨i,j,acc⟩:=s
 obtain⟨hi,hj1,hacc,hlen⟩ : i≤a.length∧j≤b.length∧R=acc++mergeS (a.drop i) (b.drop j)∧acc.length≤i+j:=by rw[hJ] at hj; exact hj
 have wi:=wrap64 (n:=(i:Int)+1) (by omega) (by omega)
 have wj:=wrap64 (n:=(j:Int)+1) (by omega) (by omega)
 by_cases hi' : i<a.length
 ·have ia' : ¬ (i:Int)=a.length:=by omega
  by_cases hjb:j<b.length
  ·have jb' : ¬ (j:Int)=b.length:=by omega
   cases s1:sLt a[i] b[j]
   ·cases s2:sLt b[j] a[i]
    ·have hm:=mergeS_ab hi' hjb s1 s2
     simp[hi']
     refine XCut.go hmix ?_
     simp[hi',hjb,ia',jb',s1,s2,wi,wj]
     refine XCut.go hmix ?_
     simp[hi',hjb,ia',jb',s1,s2,wi,wj]
     intro v1
     exact⟨by omega,⟨i+1,j+1,acc++[a[i]]⟩,by rw[hJ]; exact⟨by simp<;>omega,by simp<;>omega,by simp only[hacc,hm]; simp,by simp<;>omega⟩,by simp<;>omega,fun v2=>by simp⟩
    ·have hm:=mergeS_b (a:=a) (b:=b) (i:=i) (j:=j) hjb (fun h=>by rw[List.getElem?_eq_getElem h]; exact⟨s1,s2⟩)
     simp[hi']
     refine XCut.go hmix ?_
     simp[hi',hjb,ia',jb',s1,s2,wi,wj]
     refine XCut.go hmix ?_
     simp[hi',hjb,ia',jb',s1,s2,wi,wj]
     intro v1
     exact⟨by omega,⟨i,j+1,acc++[b[j]]⟩,by rw[hJ]; exact⟨by simp<;>omega,by simp<;>omega,by simp only[hacc,hm]; simp,by simp<;>omega⟩,by simp<;>omega,fun v2=>by simp⟩
   ·have hm:=mergeS_a (a:=a) (b:=b) (i:=i) (j:=j) hi' (fun h=>by rw[List.getElem?_eq_getElem h]; exact s1)
    simp[hi']
    refine XCut.go hmix ?_
    simp[hi',hjb,ia',jb',s1,wi,wj]
    intro v1
    exact⟨by omega,⟨i+1,j,acc++[a[i]]⟩,by rw[hJ]; exact⟨by simp<;>omega,by simp<;>omega,by simp only[hacc,hm]; simp,by simp<;>omega⟩,by simp<;>omega,fun v2=>by simp⟩
  ·have je:j=b.length:=by omega
   subst je
   have hm:=mergeS_a (a:=a) (b:=b) (i:=i) (j:=b.length) hi' (fun h=>absurd h hjb)
   simp[hi']
   refine XCut.go hmix ?_
   simp[hi',wi]
   intro v1
   exact⟨by omega,⟨i+1,b.length,acc++[a[i]]⟩,by rw[hJ]; exact⟨by simp<;>omega,by simp<;>omega,by simp only[hacc,hm]; simp,by simp<;>omega⟩,by simp<;>omega,fun v2=>by simp⟩
 ·have ie:i=a.length:=by omega
  subst ie
  by_cases hjb:j<b.length
  ·have jb' : ¬ (j:Int)=b.length:=by omega
   have hm:=mergeS_b (a:=a) (b:=b) (i:=a.length) (j:=j) hjb (fun h=>absurd h hi')
   simp[hjb]
   refine XCut.go hmix ?_
   simp[hjb,jb',wj]
   refine XCut.go hmix ?_
   simp[hjb,jb',wj]
   intro v1
   exact⟨by omega,⟨a.length,j+1,acc++[b[j]]⟩,by rw[hJ]; exact⟨by simp<;>omega,by simp<;>omega,by simp only[hacc,hm]; simp,by simp<;>omega⟩,by simp<;>omega,fun v2=>by simp⟩
  ·have je:j=b.length:=by omega
   subst je
   have hR2:R=acc:=by rw[hacc,List.drop_eq_nil_of_le (Nat.le_refl _),List.drop_eq_nil_of_le (Nat.le_refl _),mergeS_l,List.append_nil]
   simp[hR2]
end Go.Proofs.YtfilonnphgnplaaGreatDoor.Pv
set_option maxRecDepth 100000
namespace Go.Proofs.YtfilonnphgnplaaGreatDoor.Pv
open Go Go.Tidy
theorem c_ref11_every:Ret prog M.F_ref11_every [] (.agg (cT tEvery)):=by
 refine Ret.go hmix h_ref11_every (by simp) fun hb w0 F0 hG=>?_
 simp[tEvery]
theorem c_ref11_Alone (o:Ob):Ret prog M.F_ref11_Alone [.agg (cO o)] (.agg (cT (aloneT o))):=by
 refine Ret.go hmix h_ref11_Alone (by simp) fun hb w0 F0 hG=>?_
 simp[aloneT]
set_option maxHeartbeats 4000000 in
theorem arr_step (a b:Arr) (ih:Ret prog M.F_ref11_Sum [.agg (cT a.item),.agg (cT b.item)] (.agg (cT (sumT a.item b.item)))):Ret prog M.F_ref11_arr [.agg (cA a),.agg (cA b)] (.agg (cA (sumA a b))):=by
 refine Ret.go hmix h_ref11_arr (by simp) fun hb w0 F0 hG=>?_
 rw[sumA_def]
 generalize sumT a.item b.item=c at *
 simp
 intro v1 v2 v3 v4
 refine XDCall.ret ih ?_
 simp
 refine XCut.one hmix ⟨[(5,.ptr (5,v4) 11 0 0),(4,.ptr (4,v3) 11 0 0),(3,.ptr (3,v2) 11 0 0),(2,.ptr (2,v1) 11 0 0)],[((5,v4),some ⟨11,[cA (.mk c (if b.min<a.min then b.min else a.min) a.max)],false,true⟩),((4,v3),some ⟨11,[M.z6],false,true⟩),((3,v2),some ⟨11,[cA b],false,true⟩),((2,v1),some ⟨11,[cA a],false,true⟩)]⟩ ?_ ?_
 ·by_cases h1:b.min<a.min
  ·simp[h1]
  ·simp[h1]
 generalize (if b.min<a.min then b.min else a.min)=lo
 simp
 refine XCut.go hmix ?_
 by_cases h2:a.max<0
 ·simp[h2]
 ·by_cases h3:b.max<0
  ·simp[h2,h3]
  ·simp[h2,h3]
   refine XCut.go hmix ?_
   by_cases h4:a.max<b.max
   ·simp[h4]
   ·simp[h4]
section
variable {w0:World} {F0:Nat→Prop} {hG:GOk prog w0 F0} {nt:Nat}
abbrev sS (v1 v2 v3 v4:Nat) (a b:Ty) (out:List PV) (more:List (Key × Option HE)):St :=
 ⟨[(5,.ptr (5,v4) 9 0 0),(4,.ptr (4,v3) 9 0 0),(3,.ptr (3,v2) 9 0 0),(2,.ptr (2,v1) 9 0 0)],more++[((5,v4),some ⟨9,[out],false,true⟩),((4,v3),some ⟨9,[M.z1],false,true⟩),((3,v2),some ⟨9,[cT b],false,true⟩),((2,v1),some ⟨9,[cT a],false,true⟩)]⟩
set_option maxHeartbeats 4000000 in
theorem sum_t0 (v1 v2 v3 v4:Nat) (a b:Ty) (p q r e:Bool) (ns:List Span) (ts:List S) (az:List Arr) (hl:a.objects.length+b.objects.length≤68719476736) :
 XC ⟨prog,w0,F0,nt,[],0,hG⟩ M.t_ref11_Sum_0 (sS v1 v2 v3 v4 a b [.bool false,.bool p,.bool q,.bool r,.vec 2 false (ns.map encSpan),.bool e,.vec 1 false (ts.map encStr),.vec 11 false (az.map encArr),.vec 12 true []] []) [] (retIs M.rs_ref11_Sum (.agg (cT (.mk false p q r ns e ts az (a.objects++b.objects))))):=by
 simp
 exact⟨by omega,hl,List.take_of_length_le (by simp)⟩
set_option maxHeartbeats 4000000 in
theorem sum_t2 (v1 v2 v3 v4:Nat) (a b:Ty) (p q r e:Bool) (ns:List Span) (ts:List S) (hl:a.objects.length+b.objects.length≤68719476736) (h1:a.arrays.length≤1) (h2:b.arrays.length≤1)
 (ih:∀ x∈a.arrays,∀ y∈b.arrays,Ret prog M.F_ref11_arr [.agg (cA x),.agg (cA y)] (.agg (cA (sumA x y)))) :
 XC ⟨prog,w0,F0,nt,[],0,hG⟩ M.t_ref11_Sum_2 (sS v1 v2 v3 v4 a b [.bool false,.bool p,.bool q,.bool r,.vec 2 false (ns.map encSpan),.bool e,.vec 1 false (ts.map encStr),.vec 11 true [],.vec 12 true []] []) [] (retIs M.rs_ref11_Sum (.agg (cT (.mk false p q r ns e ts (sumAs a.arrays b.arrays) (a.objects++b.objects))))):=by
 have fin:∀ az,XE ⟨prog,w0,F0,nt,[],0,hG⟩ .normal (sS v1 v2 v3 v4 a b [.bool false,.bool p,.bool q,.bool r,.vec 2 false (ns.map encSpan),.bool e,.vec 1 false (ts.map encStr),.vec 11 false (az.map encArr),.vec 12 true []] []) [.sq M.t_ref11_Sum_0] (retIs M.rs_ref11_Sum (.agg (cT (.mk false p q r ns e ts az (a.objects++b.objects))))):=fun az=>by
  rw[XE_sq]; exact sum_t0 v1 v2 v3 v4 a b p q r e ns ts az hl
 generalize hR:sumAs a.arrays b.arrays=R at *
 cases ea:a.arrays with
 | nil =>
   have hR' : R=b.arrays:=by rw[← hR,ea,sumAs_nil_l]
   simp[ea]
   intro v
   refine XCut.go hmix ?_
   simp[ea]
   refine fun v'=>⟨by omega,?_⟩
   refine XCut.oneR hmix [] rfl (fun _=>sS v1 v2 v3 v4 a b [.bool false,.bool p,.bool q,.bool r,.vec 2 false (ns.map encSpan),.bool e,.vec 1 false (ts.map encStr),.vec 11 false (R.map encArr),.vec 12 true []] []) ?_ (fun _ _=>fin R)
   simp[ea,hR']
 | cons x l =>
   obtain rfl:l=[]:=by rw[ea] at h1; simpa using h1
   cases eb:b.arrays with
   | nil =>
     have hR' : R=a.arrays:=by rw[← hR,eb,sumAs_nil_r]
     simp[ea]
     intro v
     refine XCut.go hmix ?_
     simp[ea]
     refine XCut.oneR hmix [] rfl (fun _=>sS v1 v2 v3 v4 a b [.bool false,.bool p,.bool q,.bool r,.vec 2 false (ns.map encSpan),.bool e,.vec 1 false (ts.map encStr),.vec 11 false (R.map encArr),.vec 12 true []] []) ?_ (fun _ _=>fin R)
     simp[ea,eb,hR']
   | cons y l' =>
     obtain rfl:l'=[]:=by rw[eb] at h2; simpa using h2
     have hR' : R=[sumA x y]:=by rw[← hR,ea,eb]; simp[sumAs]
     have ih':=ih x (by rw[ea]; simp) y (by rw[eb]; simp)
     simp[ea]
     intro v
     refine XCut.go hmix ?_
     simp[ea]
     refine XCut.oneR hmix [] rfl (fun _=>sS v1 v2 v3 v4 a b [.bool false,.bool p,.bool q,.bool r,.vec 2 false (ns.map encSpan),.bool e,.vec 1 false (ts.map encStr),.vec 11 false (R.map encArr),.vec 12 true []] []) ?_ (fun _ _=>fin R)
     simp[ea,eb]
     intro v'
     refine XDCall.ret ih' ?_
     simp[hR']
set_option maxHeartbeats 4000000 in
theorem sum_t3 (v1 v2 v3 v4:Nat) (a b:Ty) (p q r e:Bool) (ns:List Span) (hl:a.objects.length+b.objects.length≤68719476736) (hl2:a.texts.length+b.texts.length≤68719476736) (h1:a.arrays.length≤1) (h2:b.arrays.length≤1)
 (ih:∀ x∈a.arrays,∀ y∈b.arrays,Ret prog M.F_ref11_arr [.agg (cA x),.agg (cA y)] (.agg (cA (sumA x y)))) :
 XC ⟨prog,w0,F0,nt,[],0,hG⟩ M.t_ref11_Sum_3 (sS v1 v2 v3 v4 a b [.bool false,.bool p,.bool q,.bool r,.vec 2 false (ns.map encSpan),.bool e,.vec 1 true [],.vec 11 true [],.vec 12 true []] []) [] (retIs M.rs_ref11_Sum (.agg (cT (.mk false p q r ns e (if e then [] else mergeS a.texts b.texts) (sumAs a.arrays b.arrays) (a.objects++b.objects))))):=by
 simp only[XC_seq,XC_cut]
 refine XCut.oneR hmix [] rfl (fun _=>sS v1 v2 v3 v4 a b [.bool false,.bool p,.bool q,.bool r,.vec 2 false (ns.map encSpan),.bool e,.vec 1 false ((if e then [] else mergeS a.texts b.texts).map encStr),.vec 11 true [],.vec 12 true []] []) ?_ (fun _ _=>by rw[XE_sq]; exact sum_t2 v1 v2 v3 v4 a b p q r e ns _ hl h1 h2 ih)
 cases e
 ·simp
  refine XCall.retO (c_ref11_texts a.texts b.texts hl2) ?_
  simp
 ·simp
set_option maxHeartbeats 4000000 in
theorem sum_t4 (v v1 v2 v3 v4:Nat) (a b:Ty) (p q r e:Bool) (ha:formedT a=true) (hb' : formedT b=true) (hl:a.objects.length+b.objects.length≤68719476736) (hl2:a.texts.length+b.texts.length≤68719476736)
 (ih:∀ x∈a.arrays,∀ y∈b.arrays,Ret prog M.F_ref11_arr [.agg (cA x),.agg (cA y)] (.agg (cA (sumA x y)))) :
 XCut ⟨prog,w0,F0,nt,[],0,hG⟩ M.c_ref11_Sum_0 (sS v1 v2 v3 v4 a b [.bool false,.bool p,.bool q,.bool r,.own (1042,v) 2 0 a.nums.length false,.bool e,.vec 1 true [],.vec 11 true [],.vec 12 true []] [((1042,v),some ⟨2,a.nums.map encSpan,false,false⟩)]) [.sq M.t_ref11_Sum_4] (retIs M.rs_ref11_Sum (.agg (cT (.mk false p q r (sumN a.nums b.nums) e (if e then [] else mergeS a.texts b.texts) (sumAs a.arrays b.arrays) (a.objects++b.objects))))):=by
 obtain⟨-,-,-,a4,a5,a6,-,-⟩:=formedT_spec ha
 obtain⟨-,-,-,b4,b5,b6,-,-⟩:=formedT_spec hb'
 generalize hR:sumN a.nums b.nums=R at *
 have fin:XE ⟨prog,w0,F0,nt,[],0,hG⟩ .normal (sS v1 v2 v3 v4 a b [.bool false,.bool p,.bool q,.bool r,.vec 2 false (R.map encSpan),.bool e,.vec 1 true [],.vec 11 true [],.vec 12 true []] []) [.sq M.t_ref11_Sum_3] (retIs M.rs_ref11_Sum (.agg (cT (.mk false p q r R e (if e then [] else mergeS a.texts b.texts) (sumAs a.arrays b.arrays) (a.objects++b.objects))))):=by
  rw[XE_sq]; exact sum_t3 v1 v2 v3 v4 a b p q r e R hl hl2 a6 b6 ih
 cases ea:a.nums with
 | nil =>
   have hR' : R=b.nums:=by rw[← hR,ea]; rfl
   refine XCut.go hmix ?_
   simp[ea]
   refine fun v'=>⟨by omega,?_⟩
   refine XCut.oneR hmix [] rfl (fun _=>sS v1 v2 v3 v4 a b [.bool false,.bool p,.bool q,.bool r,.vec 2 false (R.map encSpan),.bool e,.vec 1 true [],.vec 11 true [],.vec 12 true []] []) ?_ (fun _ _=>fin)
   simp[ea,hR']
 | cons x l =>
   obtain rfl:l=[]:=by rw[ea] at a4; simpa using a4
   cases eb:b.nums with
   | nil =>
     have hR' : R=a.nums:=by rw[← hR,ea,eb]; rfl
     refine XCut.go hmix ?_
     simp[ea]
     refine XCut.oneR hmix [] rfl (fun _=>sS v1 v2 v3 v4 a b [.bool false,.bool p,.bool q,.bool r,.vec 2 false (R.map encSpan),.bool e,.vec 1 true [],.vec 11 true [],.vec 12 true []] []) ?_ (fun _ _=>fin)
     simp[ea,eb,hR']
   | cons y l' =>
     obtain rfl:l'=[]:=by rw[eb] at b4; simpa using b4
     have hR' : R=[⟨lowS x.low y.low,highS x.high y.high⟩]:=by rw[← hR,ea,eb]; rfl
     have x1:=spanB_bounds (a5 x (by rw[ea]; simp))
     have y1:=spanB_bounds (b5 y (by rw[eb]; simp))
     refine XCut.go hmix ?_
     simp[ea]
     refine XCut.oneR hmix [] rfl (fun _=>sS v1 v2 v3 v4 a b [.bool false,.bool p,.bool q,.bool r,.vec 2 false (R.map encSpan),.bool e,.vec 1 true [],.vec 11 true [],.vec 12 true []] []) ?_ (fun _ _=>fin)
     simp[ea,eb]
     intro v'
     refine XDCall.ret (c_ref11_low x.low y.low x1.1 y1.1) ?_
     simp[ea,eb]
     refine XDCall.ret (c_ref11_high x.high y.high x1.2 y1.2) ?_
     simp[hR']
end
set_option maxHeartbeats 4000000 in
theorem sum_step (a b:Ty) (ha:formedT a=true) (hb' : formedT b=true) (hl:a.objects.length+b.objects.length≤68719476736) (hl2:a.texts.length+b.texts.length≤68719476736)
 (ih:∀ x∈a.arrays,∀ y∈b.arrays,Ret prog M.F_ref11_arr [.agg (cA x),.agg (cA y)] (.agg (cA (sumA x y)))):Ret prog M.F_ref11_Sum [.agg (cT a),.agg (cT b)] (.agg (cT (sumT a b))):=by
 refine Ret.go hmix h_ref11_Sum (by simp) fun hb w0 F0 hG=>?_
 rw[sumT_def]
 cases e1:a.all
 ·cases e2:b.all
  ·have hn:=(formedT_spec ha).2.2.2.1
   simp[e1,e2]
   refine fun v1 v2 v3 v4 v5=>⟨by omega,?_⟩
   refine XCut.anew [(42,2,1042)] rfl (fun v=>sS v1 v2 v3 v4 a b [.bool false,.bool (a.null||b.null),.bool (a.fls||b.fls),.bool (a.tru||b.tru),.own (1042,v) 2 0 a.nums.length false,.bool (a.any||b.any),.vec 1 true [],.vec 11 true [],.vec 12 true []] [((1042,v),some ⟨2,a.nums.map encSpan,false,false⟩)]) (fun v=>by simp) fun v _=>?_
   have:=sum_t4 (w0:=w0) (F0:=F0) (hG:=hG) (nt:=148) v v1 v2 v3 v4 a b (a.null||b.null) (a.fls||b.fls) (a.tru||b.tru) (a.any||b.any) ha hb' hl hl2 ih
   simpa using this
  ·simp[e1,e2]
   intro v1 v2 v3
   refine XCall.ret c_ref11_every ?_
   simp[tEvery]
 ·simp[e1]
  intro v1 v2 v3
  refine XCall.ret c_ref11_every ?_
  simp[tEvery]
theorem c_ref11_Sum (NM:List S):∀ (n:Nat) (a b:Ty) (m k:Nat),heightT a≤n→formedT a=true→formedT b=true→bdT NM m a→bdT NM k b→m+k≤17179869184→Ret prog M.F_ref11_Sum [.agg (cT a),.agg (cT b)] (.agg (cT (sumT a b))):=by
 intro n
 induction n with
 | zero =>
   intro a b m k hn ha hb hma hkb hmk
   have h0:=height_le_zero.1 hn
   rw[bdT_iff] at hma hkb
   exact sum_step a b ha hb (by omega) (by omega) fun x hx=>by rw[h0.1] at hx; cases hx
 | succ n ih =>
   intro a b m k hn ha hb hma hkb hmk
   have h1:=height_le_succ.1 hn
   rw[bdT_iff] at hma hkb
   refine sum_step a b ha hb (by omega) (by omega) fun x hx y hy=>arr_step x y ?_
   exact ih _ _ m k (h1.1 x hx) (formedA_spec ((formedT_spec ha).2.2.2.2.2.2.1 x hx)).2.2.2.1 (formedA_spec ((formedT_spec hb).2.2.2.2.2.2.1 y hy)).2.2.2.1 (hma.2.2.1 x hx) (hkb.2.2.1 y hy) hmk
end Go.Proofs.YtfilonnphgnplaaGreatDoor.Pv
set_option maxRecDepth 100000
namespace Go.Proofs.YtfilonnphgnplaaGreatDoor.Pv
open Go Go.Tidy
theorem namesL_take {l:List Ob} {k:Nat} (hk:k<l.length):namesL (l.take (k+1))=mergeS (namesL (l.take k)) l[k].names:=by
 unfold namesL
 rw[List.take_add_one,List.getElem?_eq_getElem hk]
 simp only[Option.toList_some,List.foldl_append,List.foldl_cons,List.foldl_nil]
theorem SS_namesL {l:List Ob} (h:∀ o∈l,SSs o.names):SSs (namesL l):=by rw[namesL_eq h]; exact (setS_spec _).1
theorem take_mem {α:Type} {l:List α} {k:Nat} {p:α→Prop} (h:∀ x∈l,p x):∀ x∈l.take k,p x:=fun x hx=>h x (List.mem_of_mem_take hx)
set_option maxHeartbeats 4000000 in
theorem c_ref11_Names (NM:List S) (l:List Ob) (h1:∀ o∈l,SSs o.names) (h2:∀ o∈l,∀ n∈o.names,n∈NM) (h3:NM.length≤34359738368):RetO prog M.F_ref11_Names [.vec 12 false (l.map encObj)] 1 ((namesL l).map encStr):=by
 refine RetO.go hmix h_ref11_Names (by simp) fun hb w0 F0 hG=>?_
 simp only[bndL,bndV,List.length_map,LIM,and_true] at hb
 generalize hR:namesL l=R
 simp
 intro v0
 obtain⟨J,hJ⟩ : ∃ J:Nat→List S→Prop,J=fun k acc=>acc=namesL (l.take k):=⟨_,rfl⟩
 refine XLoop.cntR hmix [(3,1,1003)] rfl l.length (fun v k (acc:List S)=>⟨[(4,.int .i64 k),(3,.own (1003,v) 1 0 acc.length false),(0,.vec 12 false (l.map encObj))],[((1003,v),some ⟨1,acc.map encStr,false,false⟩)]⟩) J [] (by rw[hJ]; rfl) (by simp) fun v k acc _ hk hj=>?_
 have hw:=wrap64 (n:=(k:Int)+1) (by omega) (by omega)
 have hj' : acc=namesL (l.take k):=by rw[hJ] at hj; exact hj
 by_cases g:k<l.length
 ·have hlen:acc.length≤NM.length:=by
     rw[hj']
     refine SS_len (SS_namesL (take_mem h1)) fun n hn=>?_
     obtain⟨o,ho,hn⟩:=namesL_sub _ n hn
     exact take_mem h2 o ho n hn
  have hlen2:l[k].names.length≤NM.length:=SS_len (h1 _ (List.getElem_mem g)) (h2 _ (List.getElem_mem g))
  simp[g]
  refine XCall.retO (by simpa using c_ref11_texts acc l[k].names (by omega)) ?_
  simp[hw,g]
  exact⟨mergeS acc l[k].names,by rw[hJ]; show _=_; rw[namesL_take g,hj'],fun v3=>by simp⟩
 ·have:acc=R:=by rw[hj',List.take_of_length_le (by omega),hR]
  simp[g,this]
theorem sumL_take {α:Type} (f:α→Ty) {l:List α} {k:Nat} (hk:k<l.length):sumL ((l.take (k+1)).map f)=sumT (sumL ((l.take k).map f)) (f l[k]):=by
 unfold sumL
 rw[List.take_add_one,List.getElem?_eq_getElem hk]
 simp only[Option.toList_some,List.map_append,List.map_cons,List.map_nil,List.foldl_append,List.foldl_cons,List.foldl_nil]
theorem all_take' {α:Type} (p:α→Bool) {l:List α} {k:Nat} (hk:k<l.length):(l.take (k+1)).all p=((l.take k).all p&&p l[k]):=by
 rw[List.take_add_one,List.getElem?_eq_getElem hk]
 simp only[Option.toList_some,List.all_append,List.all_cons,List.all_nil,Bool.and_true]
theorem map_take' {α β:Type} (f:α→β) {l:List α} {k:Nat} (hk:k<l.length):(l.take (k+1)).map f=(l.take k).map f++[f l[k]]:=by
 rw[List.take_add_one,List.getElem?_eq_getElem hk]
 simp only[Option.toList_some,List.map_append,List.map_cons,List.map_nil]
abbrev oneC (a b c:PV) (r:Ty):List PV:=[a,b,c,.bool r.all,.bool r.null,.bool r.fls,.bool r.tru,.vec 2 false (r.nums.map encSpan),.bool r.any,.vec 1 false (r.texts.map encStr),.vec 11 false (r.arrays.map encArr),.vec 12 false (r.objects.map encObj)]
set_option maxHeartbeats 4000000 in
theorem c_ref11_One (NM:List S) (m:Nat) (l:List Ob) (hf:∀ o∈l,formedO o=true) (hm:∀ o∈l,bdO NM m o) (h3:NM.length≤34359738368) (h4:l.length*m≤8589934592) (h5:m≤8589934592):Ret prog M.F_ref11_One [.vec 12 false (l.map encObj)] (.agg (cO (oneO l))):=by
 refine Ret.go hmix h_ref11_One (by simp) fun hb w0 F0 hG=>?_
 simp only[bndL,bndV,List.length_map,LIM,and_true] at hb
 have hNM:(namesL l).length≤NM.length:=SS_len (SS_namesL fun o ho=>formedO_SS (hf o ho)) fun n hn=>by
  obtain⟨o,ho,hn⟩:=namesL_sub _ n hn
  exact (hm o ho).1 n hn
 have hO:oneO l=.mk (namesL l) ((namesL l).map fun n=>sumL (l.map fun o=>(fieldO o n).1)) ((namesL l).map fun n=>l.all fun o=>(fieldO o n).2) (sumL (l.map Ob.rest)):=rfl
 generalize oneO l=R at *
 have cN:=c_ref11_Names NM l (fun o ho=>formedO_SS (hf o ho)) (fun o ho=>(hm o ho).1) h3
 generalize namesL l=ns at *
 simp
 intro v1
 refine XCall.retO cN ?_
 simp
 intro v2 v3
 have hsum:∀ (a:Ty) (k:Nat),k<l.length→formedT a=true→bdT NM (k*m) a→∀ b,formedT b=true→bdT NM m b→Ret prog M.F_ref11_Sum [.agg (cT a),.agg (cT b)] (.agg (cT (sumT a b))):=fun a k hk ha hma b hb' hmb=>by
  have:(k+1)*m≤l.length*m:=Nat.mul_le_mul_right _ hk
  rw[Nat.add_mul] at this
  exact c_ref11_Sum NM (heightT a) a b (k*m) m (Nat.le_refl _) ha hb' hma hmb (by omega)
 obtain⟨J,hJ⟩ : ∃ J:Nat→Ty→Prop,J=fun k r=>r=sumL ((l.take k).map Ob.rest):=⟨_,rfl⟩
 refine XLoop.cntR hmix [] rfl l.length (fun _ k r=>⟨[(4,.int .i64 k),(3,.ptr (3,v3) 12 0 0),(2,.ptr (2,v1) 12 0 0),(0,.vec 12 false (l.map encObj))],[((3,v3),some ⟨12,[oneC (.vec 1 false (ns.map encStr)) (.vec 9 true []) (.vec 1 true []) r],false,true⟩),((2,v1),some ⟨12,[M.z4],false,true⟩)]⟩) J tNever (by rw[hJ]; rfl) (by simp[tNever]) fun v k r _ hk hj=>?_
 have hw:=wrap64 (n:=(k:Int)+1) (by omega) (by omega)
 have hj' : r=sumL ((l.take k).map Ob.rest):=by rw[hJ] at hj; exact hj
 by_cases g:k<l.length
 ·have hfr:formedT r=true:=by
     rw[hj']; refine formed_sumL fun t ht=>?_
     obtain⟨o,ho,rfl⟩:=List.mem_map.1 ht
     exact (formedO_spec (hf o (List.mem_of_mem_take ho))).2.2.2.1
  have hbr:bdT NM (k*m) r:=by
   rw[hj']
   have:=bd_sumL (NM:=NM) (m:=m) (l:=(l.take k).map Ob.rest) (fun t ht=>by
    obtain⟨o,ho,rfl⟩:=List.mem_map.1 ht
    exact (hm o (List.mem_of_mem_take ho)).2.2)
   rw[List.length_map,List.length_take,Nat.min_eq_left (by omega)] at this
   exact this
  have c1:=hsum r k g hfr hbr l[k].rest (formedO_spec (hf _ (List.getElem_mem g))).2.2.2.1 (hm _ (List.getElem_mem g)).2.2
  simp[g]
  intros
  refine XDCall.ret c1 ?_
  simp[hw,g]
  exact⟨sumT r l[k].rest,by rw[hJ]; show _=_; rw[sumL_take Ob.rest g,hj'],by simp⟩
 ·have hr:r=sumL (l.map Ob.rest):=by rw[hj',List.take_of_length_le (by omega)]
  rw[← hr] at hO
  simp[g]
  clear hj hj' hJ J hr
  obtain⟨J,hJ⟩ : ∃ J:Nat→List Ty × List Bool→Prop,J=fun j q=>q.1=(ns.take j).map (fun n=>sumL (l.map fun o=>(fieldO o n).1))∧q.2=(ns.take j).map (fun n=>l.all fun o=>(fieldO o n).2):=⟨_,rfl⟩
  refine XLoop.cntR hmix [(2000003,9,1001),(3000003,1,1002)] rfl ns.length (fun v j (q:List Ty × List Bool)=>⟨[(5,.int .i64 j),(3,.ptr (3,v3) 12 0 0),(2,.ptr (2,v1) 12 0 0),(0,.vec 12 false (l.map encObj))],
   [((3,v3),some ⟨12,[oneC (.vec 1 false (ns.map encStr)) (.own (1001,v) 9 0 q.1.length false) (.own (1002,v) 1 0 q.2.length false) r],false,true⟩),((1001,v),some ⟨9,q.1.map encTy,false,false⟩),((1002,v),some ⟨1,q.2.map encBool,false,false⟩),((2,v1),some ⟨12,[M.z4],false,true⟩)]⟩) J ([],[]) (by rw[hJ]; exact⟨rfl,rfl⟩) (by simp) fun v j q _ hj2 hq=>?_
  have hw2:=wrap64 (n:=(j:Int)+1) (by omega) (by omega)
  obtain⟨fs,ms⟩:=q
  obtain⟨q1,q2⟩ : fs=(ns.take j).map (fun n=>sumL (l.map fun o=>(fieldO o n).1))∧ms=(ns.take j).map (fun n=>l.all fun o=>(fieldO o n).2):=by rw[hJ] at hq; exact hq
  have l1:fs.length=j:=by rw[q1]; simp; omega
  have l2:ms.length=j:=by rw[q2]; simp; omega
  by_cases g2:j<ns.length
  ·simp[g2]
   intro v6
   obtain⟨J',hJ'⟩ : ∃ J:Nat→Ty × Bool→Prop,J=fun i q=>q.1=sumL ((l.take i).map fun o=>(fieldO o ns[j]).1)∧q.2=(l.take i).all fun o=>(fieldO o ns[j]).2:=⟨_,rfl⟩
   refine XLoop.cnt hmix l.length (fun i (q:Ty × Bool)=>⟨[(8,.int .i64 i),(7,.bool q.2),(6,.ptr (6,v6) 9 0 0),(5,.int .i64 j),(3,.ptr (3,v3) 12 0 0),(2,.ptr (2,v1) 12 0 0),(0,.vec 12 false (l.map encObj))],
    [((6,v6),some ⟨9,[cT q.1],false,true⟩),((3,v3),some ⟨12,[oneC (.vec 1 false (ns.map encStr)) (.own (1001,v) 9 0 fs.length false) (.own (1002,v) 1 0 ms.length false) r],false,true⟩),((1001,v),some ⟨9,fs.map encTy,false,false⟩),((1002,v),some ⟨1,ms.map encBool,false,false⟩),((2,v1),some ⟨12,[M.z4],false,true⟩)]⟩) J' (tNever,true) (by rw[hJ']; exact⟨rfl,rfl⟩) (by simp[tNever]) fun i q hi hq'=>?_
   obtain⟨f,b⟩:=q
   obtain⟨p1,p2⟩ : f=sumL ((l.take i).map fun o=>(fieldO o ns[j]).1)∧b=(l.take i).all fun o=>(fieldO o ns[j]).2:=by rw[hJ'] at hq'; exact hq'
   have hw3:=wrap64 (n:=(i:Int)+1) (by omega) (by omega)
   by_cases g3:i<l.length
   ·have fo:=formedO_spec (hf l[i] (List.getElem_mem g3))
    have hff:formedT f=true:=by
     rw[p1]; refine formed_sumL fun t ht=>?_
     obtain⟨o,ho,rfl⟩:=List.mem_map.1 ht
     exact (fieldO_formed (hf o (List.mem_of_mem_take ho)) _).1
    have hbf:bdT NM (i*m) f:=by
     rw[p1]
     have:=bd_sumL (NM:=NM) (m:=m) (l:=(l.take i).map fun o=>(fieldO o ns[j]).1) (fun t ht=>by
      obtain⟨o,ho,rfl⟩:=List.mem_map.1 ht
      exact bd_field (hm o (List.mem_of_mem_take ho)) _)
     rw[List.length_map,List.length_take,Nat.min_eq_left (by omega)] at this
     exact this
    have c1:=hsum f i g3 hff hbf (fieldO l[i] ns[j]).1 (fieldO_formed (hf _ (List.getElem_mem g3)) _).1 (bd_field (hm _ (List.getElem_mem g3)) _)
    simp[g3,g2]
    intros
    refine XDCall.ret (c_ref12_Field l[i] ns[j] fo.1 fo.2.1) ?_
    simp
    intros
    refine XCall.ret c1 ?_
    simp[hw3,g3,-Bool.exists_bool]
    exact⟨sumT f (fieldO l[i] ns[j]).1,(b&&(fieldO l[i] ns[j]).2),by
     rw[hJ']
     show _=_∧_=_
     rw[sumL_take (fun o=>(fieldO o ns[j]).1) g3,all_take' _ g3,← p1,← p2]
     exact⟨rfl,rfl⟩,by simp⟩
   ·have e1:f=sumL (l.map fun o=>(fieldO o ns[j]).1):=by rw[p1,List.take_of_length_le (by omega)]
    have e2:b=l.all fun o=>(fieldO o ns[j]).2:=by rw[p2,List.take_of_length_le (by omega)]
    simp[g3,hw2]
    exact fun v8=>⟨by omega,fun v9=>⟨by omega,g2,fs++[f],ms++[b],by
     rw[hJ]
     show _=_∧_=_
     rw[map_take' _ g2,map_take' _ g2,← q1,← q2,e1,e2]
     exact⟨rfl,rfl⟩,fun v10=>by simp⟩⟩
  ·have e1:R=.mk ns fs ms r:=by rw[hO,q1,q2,List.take_of_length_le (by omega)]
   rw[e1]
   simp[g2]
end Go.Proofs.YtfilonnphgnplaaGreatDoor.Pv
