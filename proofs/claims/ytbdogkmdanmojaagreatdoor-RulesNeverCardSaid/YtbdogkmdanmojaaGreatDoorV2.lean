/- Part 2. -/
import Derived.Test.YtbdogkmdanmojaaGreatDoorV1
import Derived.Laws.IdiomCopy
import Derived.Deep.Upon
set_option linter.unusedSimpArgs false
set_option linter.unusedVariables false
namespace Go.Proofs.YtbdogkmdanmojaaGreatDoor.Pv
open Go Go.RowKit
section
variable {E : Env} {h : List (Key × Option HE)} {c : Ctx} {w : World} {ev : Operand→Value} {get : MO→PV} {o : Oper} {i : MI} {key : Key} {out : Out}
theorem does_idx (t : TypeId) (x y : Operand) (ho : o.op=.index t x y) (hi : toI E.P E.nt o=some i) (hg : HGood E h c w) (hop : Opnd E c w ev get i)
 (hs : opSem key get (fun k=>hk k h) i=some out) (hp : out.pre) : Does E h c w ev o key out:=by
 simp only [toI,ho] at hi
 split at hi
 ·rename_i hte
  split at hi
  ·rename_i mx mi hmx hmi
   simp only [Option.some.injEq] at hi
   subst hi
   have hr:=hop _ x mx hmx (by simp [MI.ops])
   have hr2:=hop _ y mi hmi (by simp [MI.ops])
   simp only [opSem] at hs
   split at hs
   ·rename_i s k n hx hy
    rw [hx] at hr
    rw [hy] at hr2
    simp only [Option.some.injEq] at hs
    subst hs
    obtain ⟨p1,p2⟩:=hp
    have hlt : n.toNat < s.size:=by omega
    have e2 : s[n.toNat]? = some (s[n.toNat]'hlt):=by simp [getElem?_pos,hlt]
    have e3 : s.data.getD n.toNat 0=s[n.toNat]'hlt:=by
     have : n.toNat < s.data.size:=hlt
     rw [Array.getD,dif_pos this]; rfl
    refine Does.same (v:=.int .u8 (s[n.toNat]'hlt).toNat) (by simp [execOp,ho,show ev x=.string s from hr.1,show ev y=.int k n from hr2.1,Instr.index,asIntOf,run_underlying hte,p1,e2]) rfl hg ⟨by rw [e3],?_⟩
    rw [e3]
    have:=(s[n.toNat]'hlt).toNat_lt
    simp [IntKind.min,IntKind.max,IntKind.signed,IntKind.bits]; omega
   ·cases hs
  ·cases hi
 ·rename_i len e hte
  split at hi
  ·cases hi
  ·rename_i hz
   obtain ⟨inf,d,h1,h2,h3⟩:=info_okT hz
   split at hi
   ·rename_i mx mi hmx hmi
    simp only [Option.some.injEq] at hi
    subst hi
    have hr:=hop _ x mx hmx (by simp [MI.ops])
    have hr2:=hop _ y mi hmi (by simp [MI.ops])
    simp only [opSem] at hs
    split at hs
    ·rename_i cs k n hx hy
     rw [hx] at hr
     rw [hy] at hr2
     simp only [Option.some.injEq] at hs
     subst hs
     obtain ⟨vs,q1,q2,q3⟩:=hr
     obtain ⟨p1,p2,p3,p4⟩:=hp
     have hlt : n.toNat < len:=by omega
     have hle : n.toNat * inf.size+inf.size≤cs.length:=by
      rw [p3,h3,← Nat.succ_mul]
      exact Nat.mul_le_mul_right _ hlt
     obtain ⟨v,s1,s2⟩:=part_ok h1 h2 q2 q3 (off:=n.toNat * inf.size) hle (by rw [← h3]; exact p4)
     exact Does.same (v:=v) (by simp [execOp,ho,q1,show ev y=.int k n from hr2.1,Instr.index,asIntOf,run_underlying hte,p1,p2,run_sizeOf h1,s1]) rfl hg (by rw [h3]; exact s2)
    ·cases hs
   ·cases hi
 ·cases hi
theorem toOs_RepL : ∀ (ts : List TypeId) (xs : List Operand) (ys : List MO),toOs E.P E.nt ts xs=some ys→(∀ t x m,toO E.P E.nt t x=some m→m ∈ ys→RepV w c (get m) (ev x))→RepL w c (ys.map get) (xs.map ev)
 | _,[],ys,hy,_=>by simp [toOs] at hy; subst hy; rfl
 | ts,x::xs,ys,hy,hsub=>by
   simp only [toOs] at hy
   split at hy
   ·rename_i y ys' h1 h2
    simp only [Option.some.injEq] at hy
    subst hy
    exact ⟨_,_,rfl,hsub _ x y h1 (by simp),toOs_RepL _ xs _ h2 (fun t x m h hm=>hsub t x m h (by simp [hm]))⟩
   ·cases hy
theorem does_mkfn (f : FuncId) (first caps : Array Operand) (ho : o.op=.makeFunc (.func f) first caps) (hi : toI E.P E.nt o=some i) (hg : HGood E h c w) (hop : Opnd E c w ev get i)
 (hs : opSem key get (fun k=>hk k h) i=some out) (hp : out.pre) : Does E h c w ev o key out:=by
 simp only [toI,ho] at hi
 split at hi
 ·rename_i ma mb h1 h2
  cases hi
  simp only [opSem,Option.some.injEq] at hs
  subst hs
  have r1:=toOs_RepL (w:=w) (c:=c) (ev:=ev) (get:=get) _ _ _ h1 (fun t x m hm hx=>hop t x m hm (by simp [MI.ops,hx]))
  have r2:=toOs_RepL (w:=w) (c:=c) (ev:=ev) (get:=get) _ _ _ h2 (fun t x m hm hx=>hop t x m hm (by simp [MI.ops,hx]))
  exact Does.same (v:=.func (.func f) (first.map ev) (caps.map ev)) (by simp [execOp,ho,Instr.makeFunc]) rfl hg ⟨_,_,rfl,by simpa using r1,by simpa using r2⟩
 ·cases hi
theorem does_cap (cl : Call) (ho : o.op=.call cl) (hcl : cl.callee=.builtin .cap) (hi : toI E.P E.nt o=some i) (hg : HGood E h c w) (hop : Opnd E c w ev get i)
 (hs : opSem key get (fun k=>hk k h) i=some out) (hp : out.pre) : Does E h c w ev o key out:=by
 simp only [toI,ho,hcl] at hi
 split at hi
 ·rename_i t x ht hx
  have ea : cl.args=#[x]:=by rw [← Array.toArray_toList (xs:=cl.args),hx]
  have et : cl.argTypes=#[t]:=by rw [← Array.toArray_toList (xs:=cl.argTypes),ht]
  split at hi
  ·rename_i e hte
   obtain ⟨m,hm,rfl⟩:=Option.map_eq_some_iff.1 hi
   have hr:=hop _ x m hm (by simp [MI.ops])
   simp only [opSem] at hs
   split at hs
   ·rename_i xs hx
    rw [hx] at hr
    simp only [Option.some.injEq] at hs
    subst hs
    obtain ⟨a,cap,q1,q2,q3,q4,q5,_⟩:=hr
    have:=q5 rfl
    subst this
    refine Does.same (v:=.int .i64 xs.length) (by simp [execOp,ho,resolve,hcl,invoke,builtin,ea,et,Builtin.cap_,run_underlying hte,q1,goInt]) rfl hg ⟨rfl,?_⟩
    simp [IntKind.min,IntKind.max,IntKind.signed,IntKind.bits]; omega
   ·rename_i g es off len hx
    rw [hx] at hr
    simp only [Option.some.injEq] at hs
    subst hs
    obtain ⟨_,_,_,a,cap,q1,q2,q3,q4,q5,_⟩:=hr
    have:=q5 rfl
    subst this
    refine Does.same (v:=.int .i64 cap) (by simp [execOp,ho,resolve,hcl,invoke,builtin,ea,et,Builtin.cap_,run_underlying hte,q1,goInt]) rfl hg ⟨rfl,?_⟩
    simp [IntKind.min,IntKind.max,IntKind.signed,IntKind.bits]; omega
   ·cases hs
  ·cases hi
 ·cases hi
theorem does_minmax (mx : Bool) (cl : Call) (ho : o.op=.call cl) (hcl : cl.callee=.builtin (if mx then .max else .min)) (hi : toI E.P E.nt o=some i) (hg : HGood E h c w) (hop : Opnd E c w ev get i)
 (hs : opSem key get (fun k=>hk k h) i=some out) (hp : out.pre) : Does E h c w ev o key out:=by
 have hi' : (match cl.args.toList with
  | [x,y]=>match toO E.P E.nt 3 x,toO E.P E.nt 3 y with | some x,some y=>some (MI.minmax mx x y) | _,_=>none
  | _=>none)=some i:=by
  cases mx
  ·simp only [toI,ho,hcl,Bool.false_eq_true,if_false] at hi
   exact hi
  ·simp only [toI,ho,hcl,if_true] at hi
   exact hi
 clear hi
 split at hi'
 ·rename_i x y hx
  have ea : cl.args=#[x,y]:=by rw [← Array.toArray_toList (xs:=cl.args),hx]
  split at hi'
  ·rename_i a b ha hb
   simp only [Option.some.injEq] at hi'
   subst hi'
   have h1:=hop _ x a ha (by simp [MI.ops])
   have h2:=hop _ y b hb (by simp [MI.ops])
   simp only [opSem] at hs
   split at hs
   ·rename_i k m k' n hx hy
    rw [hx] at h1
    rw [hy] at h2
    split at hs
    ·rename_i e
     subst e
     simp only [Option.some.injEq] at hs
     subst hs
     cases mx
     ·refine Does.same (v:=.int k (if n < m then n else m)) (by simp [execOp,ho,hcl,ea,resolve,invoke,builtin,show ev x=.int k m from h1.1,show ev y=.int k n from h2.1,Builtin.min_,Builtin.min2]) rfl hg ⟨by simp,?_⟩
      simp only [Bool.false_eq_true,if_false]
      split
      ·exact h2.2
      ·exact h1.2
     ·refine Does.same (v:=.int k (if n > m then n else m)) (by simp [execOp,ho,hcl,ea,resolve,invoke,builtin,show ev x=.int k m from h1.1,show ev y=.int k n from h2.1,Builtin.max_,Builtin.max2]) rfl hg ⟨by simp,?_⟩
      simp only [if_true]
      split
      ·exact h2.2
      ·exact h1.2
    ·cases hs
   ·cases hs
  ·cases hi'
 ·cases hi'
theorem bound_rep {x : Option Operand} {m : Option MO} {t : TypeId} (hm : toOpt E.P E.nt t x=some m) (hop : ∀ t y k,toO E.P E.nt t y=some k→k ∈ m.toList→RepV w c (get k) (ev y)) {n : Int} (hn : (m.map get).bind natOf=some n) :
 ∃ y k,x=some y∧ev y=.int k n:=by
 cases x with
 | none =>
   simp only [toOpt,Option.some.injEq] at hm
   subst hm
   simp at hn
 | some y =>
   simp only [toOpt] at hm
   obtain ⟨k,hk,rfl⟩:=Option.map_eq_some_iff.1 hm
   have hr:=hop _ y k hk (by simp)
   simp only [Option.map_some,Option.bind_some] at hn
   cases hx : get k <;> rw [hx] at hn hr <;> first | (simp [natOf] at hn; done) | skip
   rename_i kk nn
   simp only [natOf,Option.some.injEq] at hn
   subst hn
   exact ⟨y,kk,rfl,hr.1⟩
theorem sliceBounds_ok {P : Program} {isS : Bool} {len cap : Nat} {lo hi mx : Option Value} {l hh mm : Int}
 (h1 : (lo=none∧l=0)∨∃ k,lo=some (.int k l)) (h2 : (hi=none∧hh=len∧mx=none)∨∃ k,hi=some (.int k hh)) (h3 : (mx=none∧mm=cap)∨∃ k,mx=some (.int k mm))
 (p1 : 0≤l) (p2 : l≤hh) (p3 : hh≤mm) (p4 : mm≤cap) :
 (Instr.sliceBounds isS len cap lo hi mx).run P w=.ok (l.toNat,hh.toNat,mm.toNat) w:=by
 have em : (mm.toNat : Int)=mm:=Int.toNat_of_nonneg (by omega)
 have eh : (hh.toNat : Int)=hh:=Int.toNat_of_nonneg (by omega)
 rcases h3 with ⟨rfl,rfl⟩ | ⟨k3,rfl⟩
 ·rcases h2 with ⟨rfl,rfl,_⟩ | ⟨k2,rfl⟩
  ·rcases h1 with ⟨rfl,rfl⟩ | ⟨k1,rfl⟩
   ·simp [Instr.sliceBounds]
   ·simp [Instr.sliceBounds,run_sliceBound,p1,p2]
  ·rcases h1 with ⟨rfl,rfl⟩ | ⟨k1,rfl⟩
   ·simp [Instr.sliceBounds,run_sliceBound,p2,p3]
   ·simp [Instr.sliceBounds,run_sliceBound,p1,p2,p3,eh,(by omega : 0≤hh)]
 ·rcases h2 with ⟨_,_,h⟩ | ⟨k2,rfl⟩
  ·cases h
  ·rcases h1 with ⟨rfl,rfl⟩ | ⟨k1,rfl⟩
   ·simp [Instr.sliceBounds,run_sliceBound,p2,p3,p4,em,eh,(by omega : 0≤hh),(by omega : 0≤mm)]
   ·simp [Instr.sliceBounds,run_sliceBound,p1,p2,p3,p4,em,eh,(by omega : 0≤hh),(by omega : 0≤mm)]
theorem run_slice_gen {P : Program} {t e : TypeId} {inf : TypeInfo} (ht : P.underlying t=some (.slice e)) (hinf : P.info? e=some inf) {a : Option Addr} {len cap : Nat} {lo hi mx : Option Value} {l hh mm : Nat}
 (hb : (Instr.sliceBounds true len cap lo hi mx).run P w=.ok (l,hh,mm) w) :
 (Instr.sliceAt t (.slice a len cap) lo hi mx).run P w=.ok (.slice (if mm=l then a else a.map (·.add (l * inf.size))) (hh - l) (mm - l)) w:=by
 simp only [Instr.sliceAt,Sem.run_bind,run_underlying ht,Result.andThen_ok,Instr.slice,hb,run_sizeOf hinf,Sem.run_pure]
theorem bounds_spec {len : Nat} {lo hi : Option PV} {l hh : Int} (hb : bounds len lo hi=some (l,hh)) :
 ((lo=none∧l=0)∨lo.bind natOf=some l)∧((hi=none∧hh=len)∨hi.bind natOf=some hh):=by
 unfold bounds at hb
 cases lo <;> cases hi <;> simp only [Option.bind_none,Option.bind_some] at hb ⊢
 ·simp at hb; simp [hb]
 ·split at hb
  ·rename_i e1 e2; simp at hb; simp at e1; simp [e2,← hb.1,← hb.2,← e1]
  ·cases hb
 ·split at hb
  ·rename_i e1 e2; simp at hb; simp at e2; simp [e1,← hb.1,← hb.2,← e2]
  ·cases hb
 ·split at hb
  ·rename_i e1 e2; simp at hb; simp [e1,e2,← hb.1,← hb.2]
  ·cases hb
theorem rows_slice {esz b o : Nat} {xs : List (List PV)} (hr : RepRows w c esz b o xs) (l n : Nat) : RepRows w c esz b (o+l * esz) ((xs.drop l).take n):=RepRows.take n (RepRows.drop l hr)
theorem slice_vec {P : Program} {t e : TypeId} {inf : TypeInfo} (ht : P.underlying t=some (.slice e)) (hinf : P.info? e=some inf) {esz : Nat} {full : Bool} {xs : List (List PV)} {v : Value}
 (hr : RepV w c (.vec esz full xs) v) (he : xs=[]∨esz=inf.size) {lo hi mx : Option Value} {l hh mm : Int} {full' : Bool}
 (h1 : (lo=none∧l=0)∨∃ k,lo=some (.int k l)) (h2 : (hi=none∧hh=(xs.length : Nat)∧mx=none)∨∃ k,hi=some (.int k hh))
 (hm : (mx=none∧full'=(full&&decide (hh=xs.length)))∨(∃ k,mx=some (.int k mm))∧hh≤mm∧mm≤xs.length∧full'=decide (hh=mm))
 (p1 : 0≤l) (p2 : l≤hh) (p3 : hh≤xs.length) :
 ∃ v',(Instr.sliceAt t v lo hi mx).run P w=.ok v' w∧RepV w c (.vec esz full' ((xs.drop l.toNat).take (hh.toNat - l.toNat))) v':=by
 obtain ⟨a,cap,q1,q2,q3,q4,q5,q6⟩:=hr
 subst q1
 have hlen : ((xs.drop l.toNat).take (hh.toNat - l.toNat)).length=hh.toNat - l.toNat:=by simp; omega
 obtain ⟨m,e1,e2,e3,e4⟩ : ∃ m : Int,((mx=none∧m=cap)∨∃ k,mx=some (.int k m))∧hh≤m∧m≤cap∧(full'=true→m=hh):=by
  rcases hm with ⟨rfl,hf⟩ | ⟨⟨k,rfl⟩,g1,g2,hf⟩
  ·refine ⟨cap,.inl ⟨rfl,rfl⟩,by omega,by omega,fun ht=>?_⟩
   rw [hf] at ht
   simp only [Bool.and_eq_true,decide_eq_true_eq] at ht
   rw [q5 ht.1,ht.2]
  ·refine ⟨mm,.inr ⟨k,rfl⟩,g1,by omega,fun ht=>?_⟩
   rw [hf] at ht
   simp only [decide_eq_true_eq] at ht
   exact ht.symm
 have hb:=sliceBounds_ok (P:=P) (w:=w) (isS:=true) (len:=xs.length) (cap:=cap) h1 h2 e1 p1 p2 e2 e3
 refine ⟨_,run_slice_gen ht hinf hb,?_⟩
 refine ⟨_,_,by rw [hlen],by omega,by omega,by omega,fun ht=>by have:=e4 ht; omega,?_⟩
 by_cases h0 : hh.toNat - l.toNat=0
 ·exact .inl (by rw [h0]; rfl)
 ·rcases q6 with q6 | ⟨ad,q6,q7,q8,q9⟩
  ·subst q6; simp at p3; omega
  ·refine .inr ⟨⟨ad.block,ad.off+l.toNat * esz,none⟩,?_,rfl,q8,rows_slice q9 _ _⟩
   have hne : ¬ (m.toNat=l.toNat):=by omega
   have he' : esz=inf.size:=he.resolve_left (by intro h; subst h; simp at p3; omega)
   rw [if_neg hne,q6,addr_of q7,Option.map_some,add_at,he']
theorem slice_own {P : Program} {t e : TypeId} {inf : TypeInfo} (ht : P.underlying t=some (.slice e)) (hinf : P.info? e=some inf) {g : Key} {off len : Nat} {full : Bool} {v : Value}
 (hr : RepV w c (.own g inf.size off len full) v) {lo hi mx : Option Value} {l hh mm : Int} {full' : Bool}
 (h1 : (lo=none∧l=0)∨∃ k,lo=some (.int k l)) (h2 : (hi=none∧hh=(len : Nat)∧mx=none)∨∃ k,hi=some (.int k hh))
 (hm : (mx=none∧full'=(full&&decide (hh=len)))∨(∃ k,mx=some (.int k mm))∧hh≤mm∧mm≤len∧full'=decide (hh=mm))
 (p1 : 0≤l) (p2 : l≤hh) (p3 : hh≤len) :
 ∃ v',(Instr.sliceAt t v lo hi mx).run P w=.ok v' w∧RepV w c (.own g inf.size (off+l.toNat) (hh.toNat - l.toNat) full') v':=by
 obtain ⟨g1,g2,g3,a,cap,q1,q2,q3,q4,q5,q6⟩:=hr
 subst q1
 obtain ⟨m,e1,e2,e3,e4⟩ : ∃ m : Int,((mx=none∧m=cap)∨∃ k,mx=some (.int k m))∧hh≤m∧m≤cap∧(full'=true→m=hh):=by
  rcases hm with ⟨rfl,hf⟩ | ⟨⟨k,rfl⟩,g1,g2,hf⟩
  ·refine ⟨cap,.inl ⟨rfl,rfl⟩,by omega,by omega,fun ht=>?_⟩
   rw [hf] at ht
   simp only [Bool.and_eq_true,decide_eq_true_eq] at ht
   rw [q5 ht.1,ht.2]
  ·refine ⟨mm,.inr ⟨k,rfl⟩,g1,by omega,fun ht=>?_⟩
   rw [hf] at ht
   simp only [decide_eq_true_eq] at ht
   exact ht.symm
 have hb:=sliceBounds_ok (P:=P) (w:=w) (isS:=true) (len:=len) (cap:=cap) h1 h2 e1 p1 p2 e2 e3
 refine ⟨_,run_slice_gen ht hinf hb,?_⟩
 refine ⟨g1,g2,g3,_,_,rfl,by omega,by omega,by omega,fun ht=>by have:=e4 ht; omega,?_⟩
 cases hbe : c.β g with
 | none =>
   rw [hbe] at q6
   exact ⟨by omega,by omega,by omega⟩
 | some ad =>
   rw [hbe] at q6
   by_cases h0 : m.toNat=l.toNat
   ·exact .inl (by omega)
   ·rcases q6 with q6 | ⟨q6,cs,el,fr,q7,q8⟩
    ·exact .inl (by omega)
    ·refine .inr ⟨by rw [if_neg h0,q6,Option.map_some,add_at,Nat.add_mul,Nat.add_assoc],cs,el,fr,q7,?_⟩
     have : (off+l.toNat+(m.toNat - l.toNat)) * inf.size≤(off+cap) * inf.size:=Nat.mul_le_mul_right _ (by omega)
     omega
theorem opt_rep {x : Option Operand} {m : Option MO} {t : TypeId} (hm : toOpt E.P E.nt t x=some m) (hop : ∀ t y k,toO E.P E.nt t y=some k→k ∈ m.toList→RepV w c (get k) (ev y)) {n : Int}
 (hn : (m.map get=none∧n=0)∨(m.map get).bind natOf=some n) : (x.map ev=none∧n=0)∨∃ k,x.map ev=some (.int k n):=by
 rcases hn with ⟨h1,h2⟩ | h1
 ·cases x with
  | none=>exact .inl ⟨rfl,h2⟩
  | some y =>
    simp only [toOpt] at hm
    obtain ⟨k,_,rfl⟩:=Option.map_eq_some_iff.1 hm
    simp at h1
 ·obtain ⟨y,k,rfl,h2⟩:=bound_rep hm hop h1
  exact .inr ⟨k,by simp [h2]⟩
theorem does_slc (t : TypeId) (x : Operand) (lo hi mx : Option Operand) (ho : o.op=.slice t x lo hi mx) (hi' : toI E.P E.nt o=some i) (hg : HGood E h c w) (hop : Opnd E c w ev get i)
 (hs : opSem key get (fun k=>hk k h) i=some out) (hp : out.pre) : Does E h c w ev o key out:=by
 simp only [toI,ho] at hi'
 split at hi'
 ·rename_i e hte
  split at hi'
  ·cases hi'
  ·rename_i hz
   obtain ⟨inf,d,i1,i2,i3⟩:=info_okT hz
   split at hi'
   ·rename_i m0 m1 m2 m3 k0 k1 k2 k3
    split at hi'
    ·cases hi'
    ·rename_i hmx
     simp only [Option.some.injEq] at hi'
     subst hi'
     have hr:=hop _ x m0 k0 (by simp [MI.ops])
     have o1 : ∀ t y k,toO E.P E.nt t y=some k→k ∈ m1.toList→RepV w c (get k) (ev y):=fun t y k a b=>hop t y k a (by simp [MI.ops]; simp at b; simp [b])
     have o2 : ∀ t y k,toO E.P E.nt t y=some k→k ∈ m2.toList→RepV w c (get k) (ev y):=fun t y k a b=>hop t y k a (by simp [MI.ops]; simp at b; simp [b])
     have o3 : ∀ t y k,toO E.P E.nt t y=some k→k ∈ m3.toList→RepV w c (get k) (ev y):=fun t y k a b=>hop t y k a (by simp [MI.ops]; simp at b; simp [b])
     have hhi : ∀ {len : Nat} {hh : Int},((m2.map get=none∧hh=len)∨(m2.map get).bind natOf=some hh)→(hi.map ev=none∧hh=(len : Nat)∧mx.map ev=none)∨∃ k,hi.map ev=some (.int k hh):=by
      intro len hh hc
      rcases hc with ⟨c1,c2⟩ | c1
      ·cases hi with
       | none =>
         refine .inl ⟨rfl,c2,?_⟩
         cases mx with
         | none=>rfl
         | some y =>
           simp only [toOpt,Option.some.injEq] at k2
           subst k2
           simp only [toOpt] at k3
           obtain ⟨k,_,rfl⟩:=Option.map_eq_some_iff.1 k3
           simp at hmx
       | some y =>
         simp only [toOpt] at k2
         obtain ⟨k,_,rfl⟩:=Option.map_eq_some_iff.1 k2
         simp at c1
      ·obtain ⟨y,k,rfl,c2⟩:=bound_rep k2 o2 c1
       exact .inr ⟨k,by simp [c2]⟩
     have hmm : ∀ {mo : Option Int},mxOf get m3=some mo→(mo=none∧mx.map ev=none)∨∃ k n,mo=some n∧mx.map ev=some (.int k n):=by
      intro mo hc
      cases m3 with
      | none =>
        simp only [mxOf,Option.some.injEq] at hc
        refine .inl ⟨hc.symm,?_⟩
        cases mx with
        | none=>rfl
        | some y =>
          simp only [toOpt] at k3
          obtain ⟨k,_,e⟩:=Option.map_eq_some_iff.1 k3
          cases e
      | some mm =>
        obtain ⟨n,n1,n2⟩:=Option.map_eq_some_iff.1 hc
        obtain ⟨y,k,rfl,c2⟩:=bound_rep (n:=n) k3 o3 (by simpa using n1)
        exact .inr ⟨k,n,n2.symm,by simp [c2]⟩
     have fin : ∀ v',(Instr.sliceAt t (ev x) (lo.map ev) (hi.map ev) (mx.map ev)).run E.P w=.ok v' w→RepV w c out.r v'→out.hu=[]→Does E h c w ev o key out:=fun v' a b c'=>Does.same (v:=v') (by simp [execOp,ho,a]) c' hg b
     simp only [opSem] at hs
     split at hs
     ·rename_i esz' full xs hx
      rw [hx] at hr
      split at hs
      ·rename_i l hh b1 b2
       simp only [Option.some.injEq] at hs
       subst hs
       obtain ⟨s1,s2⟩:=bounds_spec b1
       obtain ⟨p0,p1,p2,p3⟩:=hp
       rcases hmm b2 with ⟨_,e1⟩ | ⟨k,n,e1,_⟩
       ·obtain ⟨v',a,b⟩:=slice_vec hte i1 hr (by rw [← i3]; exact p0) (mm:=0) (opt_rep k1 o1 s1) (hhi s2) (.inl ⟨e1,rfl⟩) p1 p2 p3
        exact fin v' a b rfl
       ·cases e1
      ·rename_i l hh m b1 b2
       simp only [Option.some.injEq] at hs
       subst hs
       obtain ⟨s1,s2⟩:=bounds_spec b1
       obtain ⟨p0,p1,p2,p3,p4⟩:=hp
       rcases hmm b2 with ⟨e0,e1⟩ | ⟨k,n,e0,e1⟩
       ·cases e0
       ·simp only [Option.some.injEq] at e0
        subst e0
        obtain ⟨v',a,b⟩:=slice_vec hte i1 hr (by rw [← i3]; exact p0) (mm:=m) (opt_rep k1 o1 s1) (hhi s2) (.inr ⟨⟨k,e1⟩,p3,p4,rfl⟩) p1 p2 (by omega)
        exact fin v' a b rfl
      ·cases hs
     ·rename_i g esz' off len full hx
      rw [hx] at hr
      split at hs
      ·rename_i he
       rw [he,i3] at hr
       split at hs
       ·rename_i l hh b1 b2
        simp only [Option.some.injEq] at hs
        subst hs
        obtain ⟨s1,s2⟩:=bounds_spec b1
        obtain ⟨p1,p2,p3⟩:=hp
        rcases hmm b2 with ⟨_,e1⟩ | ⟨k,n,e1,_⟩
        ·obtain ⟨v',a,b⟩:=slice_own hte i1 hr (mm:=0) (opt_rep k1 o1 s1) (hhi s2) (.inl ⟨e1,rfl⟩) p1 p2 p3
         exact fin v' a (by rw [i3]; exact b) rfl
        ·cases e1
       ·rename_i l hh m b1 b2
        simp only [Option.some.injEq] at hs
        subst hs
        obtain ⟨s1,s2⟩:=bounds_spec b1
        obtain ⟨p1,p2,p3,p4⟩:=hp
        rcases hmm b2 with ⟨e0,e1⟩ | ⟨k,n,e0,e1⟩
        ·cases e0
        ·simp only [Option.some.injEq] at e0
         subst e0
         obtain ⟨v',a,b⟩:=slice_own hte i1 hr (mm:=m) (opt_rep k1 o1 s1) (hhi s2) (.inr ⟨⟨k,e1⟩,p3,p4,rfl⟩) p1 p2 (by omega)
         exact fin v' a (by rw [i3]; exact b) rfl
       ·cases hs
      ·cases hs
     ·cases hs
   ·cases hi'
 ·rename_i hte
  split at hi'
  ·rename_i m0 m1 m2 k0 k1 k2
   split at hi'
   ·cases hi'
   ·rename_i hmx
    simp only [Option.some.injEq] at hi'
    subst hi'
    have emx : mx=none:=by cases mx <;> simp_all
    subst emx
    have hr:=hop _ x m0 k0 (by simp [MI.ops])
    have o1 : ∀ t y k,toO E.P E.nt t y=some k→k ∈ m1.toList→RepV w c (get k) (ev y):=fun t y k a b=>hop t y k a (by simp [MI.ops]; simp at b; simp [b])
    have o2 : ∀ t y k,toO E.P E.nt t y=some k→k ∈ m2.toList→RepV w c (get k) (ev y):=fun t y k a b=>hop t y k a (by simp [MI.ops]; simp at b; simp [b])
    simp only [opSem] at hs
    split at hs
    ·rename_i s hx
     rw [hx] at hr
     split at hs
     ·rename_i l hh b1
      simp only [Option.some.injEq] at hs
      subst hs
      obtain ⟨s1,s2⟩:=bounds_spec b1
      obtain ⟨p1,p2,p3⟩:=hp
      have h2 : (hi.map ev=none∧hh=(s.size : Nat)∧(none : Option Value)=none)∨∃ k,hi.map ev=some (.int k hh):=by
       rcases s2 with ⟨c1,c2⟩ | c1
       ·cases hi with
        | none=>exact .inl ⟨rfl,c2,rfl⟩
        | some y =>
          simp only [toOpt] at k2
          obtain ⟨k,_,rfl⟩:=Option.map_eq_some_iff.1 k2
          simp at c1
       ·obtain ⟨y,k,rfl,c2⟩:=bound_rep k2 o2 c1
        exact .inr ⟨k,by simp [c2]⟩
      have hb:=sliceBounds_ok (P:=E.P) (w:=w) (isS:=false) (len:=s.size) (cap:=s.size) (mx:=none) (mm:=s.size) (opt_rep k1 o1 s1) h2 (.inl ⟨rfl,rfl⟩) p1 p2 p3 (by omega)
      refine Does.same (v:=.string (s.extract l.toNat hh.toNat)) (by simp [execOp,ho,show ev x=.string s from hr.1,Instr.sliceAt,run_underlying hte,Instr.slice,hb]) rfl hg ⟨rfl,?_⟩
      have:=hr.2
      simp only [ByteArray.size_extract]
      omega
     ·cases hs
    ·cases hs
  ·cases hi'
 ·cases hi'
end
end Go.Proofs.YtbdogkmdanmojaaGreatDoor.Pv
namespace Go.Proofs.YtbdogkmdanmojaaGreatDoor.Pv
open Go Go.RowKit
theorem mono_alloc {F : Nat→Prop} {w : World} (hF : ∀ b,F b→b < w.heap.size) (o : Obj) : Mono F w (w.alloc o) :=
 ⟨by simp,fun b hb=>Below.heap_alloc w o b (hF b hb),fun b cs el fr hb=>⟨cs,fr,by
  have hlt : b < w.heap.size:=(Array.getElem?_eq_some_iff.1 hb).1
  rw [Below.heap_alloc w o b hlt,hb],rfl⟩⟩
theorem mono_drew {F : Nat→Prop} (w : World) : Mono F w w.drew:=⟨Nat.le_refl _,fun _ _=>rfl,fun _ cs _ fr h=>⟨cs,fr,h,rfl⟩⟩
theorem heap_setCell_same {w : World} {b o : Nat} {v : Value} {cs : Array Value} {el : TypeId} {fr : Nat × Nat} (h : w.heap[b]? = some (.cells cs el fr)) :
 (w.setCell ⟨b,o,none⟩ v).heap[b]? = some (.cells (cs.setIfInBounds o v) el fr):=by
 simp [World.setCell,Array.getElem?_modify,h]
theorem heap_setCells_same (b : Nat) : ∀ (vs : List Value) (o : Nat) (w : World) (cs : Array Value) (el : TypeId) (fr : Nat × Nat),w.heap[b]? = some (.cells cs el fr) →
 ∃ cs',(w.setCells b o vs).heap[b]? = some (.cells cs' el fr)∧cs'.size=cs.size
 | [],_,_,cs,_,_,h=>⟨cs,h,rfl⟩
 | v::r,o,w,cs,el,fr,h=>by
   obtain ⟨cs',h1,h2⟩:=heap_setCells_same b r (o+1) _ _ _ _ (heap_setCell_same (o:=o) (v:=v) h)
   exact ⟨cs',h1,by simpa using h2⟩
theorem size_setCells' (b : Nat) : ∀ (vs : List Value) (o : Nat) (w : World),(w.setCells b o vs).heap.size=w.heap.size
 | [],_,_=>rfl
 | v::r,o,w=>by rw [World.setCells,size_setCells' b r]; simp
theorem heap_setCells_ne (w : World) (b o : Nat) (vs : List Value) {k : Nat} (hne : k ≠ b) : (w.setCells b o vs).heap[k]? = w.heap[k]? := by
 by_cases hk : k < w.heap.size
 ·exact World.heap_setCells_other w b o vs hk hne
 ·rw [Array.getElem?_eq_none (by rw [size_setCells']; omega),Array.getElem?_eq_none (by omega)]
theorem mono_setCells {F : Nat→Prop} {w : World} {b : Nat} (hF : ¬ F b) (o : Nat) (vs : List Value) : Mono F w (w.setCells b o vs) :=
 ⟨by rw [size_setCells']; exact Nat.le_refl _,fun k hk=>heap_setCells_ne w b o vs (fun e=>hF (e ▸ hk)),fun k cs el fr hk=>by
  by_cases e : k=b
  ·subst e
   obtain ⟨cs',h1,h2⟩:=heap_setCells_same k vs o w cs el fr hk
   exact ⟨cs',fr,h1,h2⟩
  ·exact ⟨cs,fr,(heap_setCells_ne w b o vs e).trans hk,rfl⟩⟩
theorem below_setCells0 {B b : Nat} {a w : World} (hb : B≤b) (o : Nat) (vs : List Value) (h : Below B a w) : Below B a (w.setCells b o vs):=by
 induction vs generalizing o w with
 | nil=>exact h
 | cons v r ih=>exact ih (o+1) (h.setCell hb v)
theorem below_setCells' {B b : Nat} {a w : World} (hb : B≤b) (o : Nat) (vs : List Value) (h : Bel B a w) : Bel B a (w.setCells b o vs) :=
 ⟨below_setCells0 hb o vs h.below,fun x hx=>by rw [World.frozen?_setCells]; exact h.froz x hx⟩
theorem RepAt.of_list {w : World} {c : Ctx} {b : Nat} : ∀ {o : Nat} {xs : List PV} {vs : List Value},RepL w c xs vs→(∀ u ∈ vs,u.oneCell'=true) →
 (∀ (j : Nat) (v : Value),vs[j]? = some v→w.cell? ⟨b,o+j,none⟩=some v)→RepAt w c b o xs
 | _,[],_,_,_,_=>trivial
 | o,x::xs,_,h,h1,hc=>by
   obtain ⟨u,us,rfl,e1,e2⟩:=h
   exact ⟨⟨u,by simpa using hc 0 u rfl,h1 u (by simp),e1⟩,RepAt.of_list e2 (fun u hu=>h1 u (by simp [hu])) (fun j v hj=>by
    have:=hc (j+1) v (by simpa using hj)
    rwa [show o+(j+1)=o+1+j by omega] at this)⟩
theorem RepL.split {w : World} {c : Ctx} : ∀ {xs ys : List PV} {vs : List Value},RepL w c (xs++ys) vs→RepL w c xs (vs.take xs.length)∧RepL w c ys (vs.drop xs.length)
 | [],_,_,h=>⟨by simp [RepL],by simpa using h⟩
 | x::xs,ys,_,h=>by
   obtain ⟨u,us,rfl,e1,e2⟩:=h
   obtain ⟨k1,k2⟩:=RepL.split e2
   exact ⟨⟨u,_,by simp,e1,k1⟩,by simpa using k2⟩
theorem RepRows.of_list {w : World} {c : Ctx} {esz b : Nat} : ∀ {o : Nat} {xs : List (List PV)} {vs : List Value},RepL w c xs.flatten vs→(∀ u ∈ vs,u.oneCell'=true)→(∀ r ∈ xs,r.length=esz) →
 (∀ (j : Nat) (v : Value),vs[j]? = some v→w.cell? ⟨b,o+j,none⟩=some v)→RepRows w c esz b o xs
 | _,[],_,_,_,_,_=>trivial
 | o,r::rs,vs,h,h1,hl,hc=>by
   rw [List.flatten_cons] at h
   obtain ⟨k1,k2⟩:=h.split
   have e:=hl r (by simp)
   refine ⟨e,RepAt.of_list k1 (fun u hu=>h1 u (List.mem_of_mem_take hu)) (fun j v hj=>hc j v ?_),RepRows.of_list k2 (fun u hu=>h1 u (List.mem_of_mem_drop hu)) (fun r hr=>hl r (by simp [hr])) (fun j v hj=>?_)⟩
   ·rw [List.getElem?_take] at hj
    split at hj
    ·exact hj
    ·cases hj
   ·rw [List.getElem?_drop] at hj
    have:=hc _ v hj
    rwa [e,show o+(esz+j)=o+esz+j by omega] at this
theorem RepRows.vals {w : World} {c : Ctx} {esz b : Nat} : ∀ {o : Nat} {xs : List (List PV)},RepRows w c esz b o xs→∃ vs : List Value,RepL w c xs.flatten vs∧(∀ u ∈ vs,u.oneCell'=true)∧vs.length=xs.length * esz ∧
 ∀ (j : Nat) (v : Value),vs[j]? = some v→w.cell? ⟨b,o+j,none⟩=some v
 | _,[],_=>⟨[],rfl,by simp,by simp,by simp⟩
 | o,r::rs,h=>by
   obtain ⟨e,h1,h2⟩:=h
   obtain ⟨vs,a1,a2,a3⟩:=RepAt.vals h1
   obtain ⟨us,b1,b2,b3,b4⟩:=RepRows.vals h2
   have el : vs.length=esz:=by rw [RepL.length a1,e]
   refine ⟨vs++us,by rw [List.flatten_cons]; exact RepL.append a1 b1,fun u hu=>(List.mem_append.1 hu).elim (a2 u) (b2 u),by simp [el,b3,Nat.add_mul]; omega,fun j v hj=>?_⟩
   rw [List.getElem?_append] at hj
   split at hj
   ·exact a3 j v hj
   ·have:=b4 _ v hj
    rwa [el,show o+esz+(j - esz)=o+j by omega] at this
theorem RepRows.lens {w : World} {c : Ctx} {esz b : Nat} : ∀ {o : Nat} {xs : List (List PV)},RepRows w c esz b o xs→∀ r ∈ xs,r.length=esz
 | _,[],_=>by simp
 | o,r::rs,h=>fun x hx=>by
   rcases List.mem_cons.1 hx with rfl | hx
   ·exact h.1
   ·exact RepRows.lens h.2.2 x hx
theorem cells_rep {w : World} {c : Ctx} {x : PV} {v : Value} (h : RepV w c x v) (hs : storable x=true) : RepL w c (cells x) v.cells.toList∧∀ u ∈ v.cells.toList,u.oneCell'=true:=by
 cases x <;> first
   | (simp [storable,isOne] at hs; done)
   | (obtain ⟨vs,rfl,h1,h2⟩:=h; exact ⟨h1,h2⟩)
   | skip
 all_goals
   have e : v.cells=#[v]∧v.oneCell'=true:=by
    first
    | (have h' : v=_:=h; subst h'; exact ⟨rfl,rfl⟩)
    | (obtain ⟨rfl,_⟩:=h; exact ⟨rfl,rfl⟩)
    | (obtain ⟨_,rfl,_⟩:=h; exact ⟨rfl,rfl⟩)
    | (obtain ⟨_,_,rfl,_⟩:=h; exact ⟨rfl,rfl⟩)
    | (obtain ⟨_,_,_,rfl⟩:=h; exact ⟨rfl,rfl⟩)
    | (obtain ⟨_,_,_,_,rfl⟩:=h; exact ⟨rfl,rfl⟩)
    | (obtain ⟨_,_,_,_,_,rfl,_⟩:=h; exact ⟨rfl,rfl⟩)
   rw [e.1]
   exact ⟨⟨v,[],rfl,h,rfl⟩,by simpa using e.2⟩
theorem fitsV_rep {w : World} {c : Ctx} {x : PV} {v : Value} (h : fitsV x v=true) : RepV w c x v∧v.oneCell'=true:=by
 unfold fitsV at h
 split at h
 ·simp only [beq_iff_eq] at h; subst h; exact ⟨rfl,rfl⟩
 ·simp only [Bool.and_eq_true,beq_iff_eq,decide_eq_true_eq] at h
  obtain ⟨⟨⟨rfl,rfl⟩,h1⟩,h2⟩:=h
  exact ⟨⟨rfl,h1,h2⟩,rfl⟩
 ·simp only [Bool.and_eq_true,beq_iff_eq,decide_eq_true_eq] at h
  obtain ⟨h0,h1⟩:=h
  exact ⟨⟨by rw [ByteArray.ext h0],h1⟩,rfl⟩
 ·exact ⟨⟨none,0,rfl,by simp,by simp,by simp [LIM],fun _=>rfl,.inl rfl⟩,rfl⟩
 ·exact ⟨rfl,rfl⟩
 ·exact ⟨rfl,rfl⟩
 ·exact ⟨rfl,rfl⟩
 ·cases h
theorem fitsL_rep {w : World} {c : Ctx} : ∀ {xs : List PV} {vs : List Value},fitsL xs vs=true→RepL w c xs vs∧∀ u ∈ vs,u.oneCell'=true
 | [],[],_=>⟨rfl,by simp⟩
 | [],_::_,h=>by simp [fitsL] at h
 | _::_,[],h=>by simp [fitsL] at h
 | x::xs,v::vs,h=>by
   simp only [fitsL,Bool.and_eq_true] at h
   obtain ⟨a,b⟩:=fitsV_rep (w:=w) (c:=c) h.1
   obtain ⟨d,e⟩:=fitsL_rep (w:=w) (c:=c) h.2
   refine ⟨⟨v,vs,rfl,a,d⟩,fun u hu=>?_⟩
   rcases List.mem_cons.1 hu with rfl | hu
   ·exact b
   ·exact e u hu
theorem zeroPV_ok {P : Program} {t : TypeId} {zs : List PV} (h : zeroPV P t=some zs) : ∃ i z,P.info? t=some i∧i.zero=some z∧fitsL zs z.cells.toList=true∧aggOf P t=isAggV z∧zs.length=i.size:=by
 unfold zeroPV at h
 split at h
 ·rename_i z hz
  obtain ⟨i,h1,h2⟩:=Option.bind_eq_some_iff.1 hz
  split at h
  ·rename_i hc
   simp only [Option.some.injEq] at h
   subst h
   simp only [Bool.and_eq_true,beq_iff_eq,decide_eq_true_eq] at hc
   exact ⟨i,z,h1,h2,hc.1.1,hc.1.2,by rw [hc.2]; simp [szOf,h1]⟩
  ·cases h
 ·cases h
def newCtx (c : Ctx) (key : Key) (a : Option Addr) (n : Nat) : Ctx:=⟨fun k=>if k=key then a else c.β k,fun k=>if k=key then n else c.es k,fun k=>c.U k∨k=key,c.Fz⟩
theorem newCtx_le {c : Ctx} {key : Key} {a : Option Addr} {n : Nat} (hk : ¬ c.U key) : c.Le (newCtx c key a n) :=
 ⟨fun _ h=>.inl h,fun g hg=>if_neg (fun e=>by subst e; exact hk hg),fun g hg=>if_neg (fun e=>by subst e; exact hk hg),fun _ h=>h⟩
theorem newCtx_bnd {c : Ctx} {key : Key} {a : Option Addr} {n : Nat} (h : ∃ N,∀ k,c.U k→k.2 < N) : ∃ N,∀ k,(newCtx c key a n).U k→k.2 < N:=by
 obtain ⟨N,h⟩:=h
 refine ⟨max N (key.2+1),fun k hk=>?_⟩
 rcases hk with hk | rfl
 ·exact Nat.lt_of_lt_of_le (h k hk) (Nat.le_max_left _ _)
 ·exact Nat.lt_of_lt_of_le (Nat.lt_succ_self _) (Nat.le_max_right _ _)
theorem sel_le {c c' : Ctx} (q : Bool) (h : c.Le c') : Ctx.Le (if q then c else c.d) (if q then c' else c'.d):=by
 cases q
 ·simpa using Ctx.Le.d h.Fz
 ·simpa using h
theorem sel_fz (c : Ctx) (q : Bool) : Ctx.Fz (if q then c else c.d)=c.Fz:=by cases q <;> rfl
theorem HRep.mono {w w' : World} {c c' : Ctx} {k : Key} {e : HE} (h : HRep w c k e) (hm : Mono c.Fz w w') (hc : c.Le c') (hF : ∀ ad,c.β k=some ad→(c'.Fz ad.block↔c.Fz ad.block)) (hb : ∀ ad,c.β k=some ad→w'.heap[ad.block]? = w.heap[ad.block]?) : HRep w' c' k e:=by
 obtain ⟨h1,h2,h3⟩:=h
 refine ⟨hc.U k h1,h2.trans (hc.es k h1).symm,?_⟩
 rw [hc.β k h1]
 cases hbk : c.β k with
 | none=>rw [hbk] at h3; exact h3
 | some ad =>
   rw [hbk] at h3
   obtain ⟨a1,⟨cs,el,fr,a2,a3⟩,a4,a5⟩:=h3
   exact ⟨a1,⟨cs,el,fr,by rw [hb ad hbk,a2],a3⟩,RepRows.mono e.esz ad.block (hb ad hbk) _ _ (by rw [sel_fz]; exact hm) (sel_le e.bx hc) a4,(hF ad hbk).trans a5⟩
section
variable {E : Env} {h : List (Key × Option HE)} {c : Ctx} {w : World} {ev : Operand→Value} {get : MO→PV} {o : Oper} {i : MI} {key : Key} {out : Out}
theorem hk_cons (k j : Key) (e : Option HE) (h : List (Key × Option HE)) : hk k ((j,e)::h)=if k=j then e else hk k h:=rfl
theorem HGood.extendF (hg : HGood E h c w) (hkey : ¬ c.U key) {cs : Array Value} {el : TypeId} {n : Nat} {xs : List (List PV)} {vs : List Value} (bx : Bool) (fr : Nat × Nat) (hfr : ∀ o,o < cs.size→¬ (fr.1≤o∧o < fr.2))
 (hv : RepL w (if bx then c else c.d) xs.flatten vs) (h1 : ∀ u ∈ vs,u.oneCell'=true) (hl : ∀ r ∈ xs,r.length=n) (hcs : ∀ (j : Nat) (v : Value),vs[j]? = some v→cs[j]? = some v) (hsz : xs.length * n≤cs.size)
 (w1 : World) (hw1 : w1=w∨w1=w.drew) :
 HGood E ((key,some ⟨n,xs,false,bx⟩)::h) (newCtx c key (some ⟨w.heap.size,0,none⟩) n) (w1.alloc (.cells cs el fr))∧Mono c.Fz w (w1.alloc (.cells cs el fr)):=by
 have hh1 : w1.heap=w.heap:=by rcases hw1 with rfl | rfl <;> rfl
 have hm : Mono c.Fz w (w1.alloc (.cells cs el fr)):=by
  have m1 : Mono c.Fz w w1:=by
   rcases hw1 with rfl | rfl
   ·exact Mono.refl _ _
   ·exact mono_drew w
  exact m1.trans (mono_alloc (fun b hb=>by rw [hh1]; exact (hg.fz b hb).1) _)
 have hle:=newCtx_le (a:=some ⟨w.heap.size,0,none⟩) (n:=n) hkey
 have hold : ∀ b,b < w.heap.size→(w1.alloc (.cells cs el fr)).heap[b]? = w.heap[b]? := fun b hb=>by
  rw [Below.heap_alloc w1 _ b (by rw [hh1]; exact hb),hh1]
 have hnew : (w1.alloc (.cells cs el fr)).heap[w.heap.size]? = some (.cells cs el fr):=by
  simp [World.alloc,hh1]
 have hβ : ∀ k,k ≠ key→(newCtx c key (some ⟨w.heap.size,0,none⟩) n).β k=c.β k:=fun k hk=>if_neg hk
 have hβk : (newCtx c key (some ⟨w.heap.size,0,none⟩) n).β key=some ⟨w.heap.size,0,none⟩:=if_pos rfl
 refine ⟨⟨?_,?_,?_,?_,hg.le,newCtx_bnd hg.bnd,?_⟩,hm⟩
 ·intro k e he
  rw [hk_cons] at he
  split at he
  ·rename_i e1
   subst e1
   simp only [Option.some.injEq] at he
   subst he
   refine ⟨.inr rfl,(if_pos rfl).symm,?_⟩
   rw [hβk]
   refine ⟨rfl,⟨cs,el,fr,hnew,by simpa using hsz,hfr⟩,?_,?_⟩
   ·refine RepRows.of_list (RepL.mono _ _ (by rw [sel_fz]; exact hm) (sel_le bx hle) hv) h1 hl (fun j v hj=>?_)
    have:=hcs j v hj
    simp [World.cell?,hnew,this]
   ·simp only [Bool.false_eq_true,iff_false]
    intro hf
    have:=(hg.fz _ hf).1
    omega
  ·rename_i hne
   have hh:=hg.heap k e he
   exact hh.mono hm hle (fun ad _=>Iff.rfl) (fun ad had=>hold _ (hg.fresh k e ad he had).2)
 ·intro k e ad he had
  rw [hk_cons] at he
  split at he
  ·rename_i e1
   subst e1
   rw [hβk] at had
   obtain rfl:=Option.some.inj had
   exact ⟨hg.below.size,by simp [hh1]⟩
  ·rename_i hne
   rw [hβ k hne] at had
   have:=hg.fresh k e ad he had
   exact ⟨this.1,by simp [hh1]; omega⟩
 ·intro k k' e e' ad ad' he he' had had' hne
  rw [hk_cons] at he he'
  split at he
  ·rename_i e1
   subst e1
   rw [hβk] at had
   obtain rfl:=Option.some.inj had
   rw [if_neg (fun e=>hne e.symm)] at he'
   rw [hβ k' (fun e=>hne e.symm)] at had'
   have:=(hg.fresh k' e' ad' he' had').2
   simp only
   omega
  ·rename_i h1
   rw [hβ k h1] at had
   split at he'
   ·rename_i e2
    subst e2
    rw [hβk] at had'
    obtain rfl:=Option.some.inj had'
    have:=(hg.fresh k e ad he had).2
    simp only
    omega
   ·rename_i h2
    rw [hβ k' h2] at had'
    exact hg.apart k k' e e' ad ad' he he' had had' hne
 ·intro b hb
  have:=hg.fz b hb
  exact ⟨by simp [hh1]; omega,this.2⟩
 ·have h2 : Bel E.w0.heap.size E.w0 w1:=by
     rcases hw1 with rfl | rfl
     ·exact hg.below
     ·exact hg.below.drew
  exact Bel.of (h2.below.alloc (by rw [hh1]; exact hg.below.size) _)
theorem HGood.extend (hg : HGood E h c w) (hkey : ¬ c.U key) {cs : Array Value} {el : TypeId} {n : Nat} {xs : List (List PV)} {vs : List Value} (bx : Bool)
 (hv : RepL w (if bx then c else c.d) xs.flatten vs) (h1 : ∀ u ∈ vs,u.oneCell'=true) (hl : ∀ r ∈ xs,r.length=n) (hcs : ∀ (j : Nat) (v : Value),vs[j]? = some v→cs[j]? = some v) (hsz : xs.length * n≤cs.size)
 (w1 : World) (hw1 : w1=w∨w1=w.drew) :
 HGood E ((key,some ⟨n,xs,false,bx⟩)::h) (newCtx c key (some ⟨w.heap.size,0,none⟩) n) (w1.alloc (.cells cs el))∧Mono c.Fz w (w1.alloc (.cells cs el)) :=
 hg.extendF hkey bx (0,0) (fun o _=>by simp) hv h1 hl hcs hsz w1 hw1
theorem run_newVar {P : Program} (t : TypeId) (v : Value) : (newVar t v).run P w=.ok ⟨w.heap.size,0,none⟩ (w.alloc (.cells v.cells t)):=by
 simp [newVar,newRow]
theorem does_alloc (t : TypeId) (ho : o.op=.alloc t) (hi : toI E.P E.nt o=some i) (hg : HGood E h c w) (hkey : ¬ c.U key)
 (hs : opSem key get (fun k=>hk k h) i=some out) (hp : out.pre) : Does E h c w ev o key out:=by
 simp only [toI,ho] at hi
 obtain ⟨z,hz,rfl⟩:=Option.map_eq_some_iff.1 hi
 obtain ⟨inf,zv,i1,i2,i3,i4,i5⟩:=zeroPV_ok hz
 simp only [opSem,Option.some.injEq] at hs
 subst hs
 obtain ⟨r1,r2⟩:=fitsL_rep (w:=w) (c:=c) i3
 have hl : zv.cells.toList.length=z.length:=RepL.length r1
 obtain ⟨g1,g2⟩:=hg.extend hkey (cs:=zv.cells) (el:=t) (n:=z.length) (xs:=[z]) (vs:=zv.cells.toList) true (by simpa using r1) r2 (by simp) (fun j v hj=>by simpa using hj) (by simp at hl ⊢; omega) w (.inl rfl)
 exact ⟨_,.pointer (some ⟨w.heap.size,0,none⟩),_,_,by simp [execOp,ho,Instr.alloc,zeroValue,typeInfo,i1,i2,run_newVar],.inl rfl,g1,⟨.inr rfl,(if_pos rfl).symm,_,if_pos rfl,by simp⟩,newCtx_le hkey,g2,fun _ hk=>hk⟩
theorem does_box (t : TypeId) (x : Operand) (ho : o.op=.box t x) (hi : toI E.P E.nt o=some i) (hg : HGood E h c w) (hkey : ¬ c.U key) (hop : Opnd E c w ev get i)
 (hs : opSem key get (fun k=>hk k h) i=some out) (hp : out.pre) : Does E h c w ev o key out:=by
 simp only [toI,ho] at hi
 obtain ⟨m,hm,rfl⟩:=Option.map_eq_some_iff.1 hi
 have hr:=hop _ x m hm (by simp [MI.ops])
 simp only [opSem,Option.some.injEq] at hs
 subst hs
 obtain ⟨r1,r2⟩:=cells_rep hr hp
 have hl : (ev x).cells.toList.length=(cells (get m)).length:=RepL.length r1
 obtain ⟨g1,g2⟩:=hg.extend hkey (cs:=(ev x).cells) (el:=t) (n:=(cells (get m)).length) (xs:=[cells (get m)]) (vs:=(ev x).cells.toList) true (by simpa using r1) r2 (by simp) (fun j v hj=>by simpa using hj) (by simp at hl ⊢; omega) w (.inl rfl)
 exact ⟨_,.pointer (some ⟨w.heap.size,0,none⟩),_,_,by simp [execOp,ho,Instr.box,run_newVar],.inl rfl,g1,⟨.inr rfl,(if_pos rfl).symm,_,if_pos rfl,by simp⟩,newCtx_le hkey,g2,fun _ hk=>hk⟩
end
section
variable {E : Env} {h : List (Key × Option HE)} {c : Ctx} {w : World}
theorem hk_freeze (hl : Key→Option HE) (h : List (Key × Option HE)) (k : Key) : ∀ ks : List Key,hk k (freezeAll hl ks++h)=if k ∈ ks then (hl k).map (fun e=>{ e with fz:=true }) else hk k h
 | []=>by simp [freezeAll]
 | j::ks=>by
   have ih:=hk_freeze hl h k ks
   simp only [freezeAll,List.map_cons,List.cons_append,hk_cons,List.mem_cons] at ih ⊢
   by_cases e : k=j
   ·subst e; simp
   ·simp only [e,if_false,false_or]; exact ih
def blocksOf (h : List (Key × Option HE)) (c : Ctx) (ks : List Key) (b : Nat) : Prop:=∃ k ∈ ks,∃ e,hk k h=some e∧∃ ad,c.β k=some ad∧ad.block=b
def frzCtx (h : List (Key × Option HE)) (c : Ctx) (ks : List Key) : Ctx:=⟨c.β,c.es,c.U,fun b=>c.Fz b∨blocksOf h c ks b⟩
theorem frz_le {ks : List Key} : c.Le (frzCtx h c ks):=⟨fun _ h=>h,fun _ _=>rfl,fun _ _=>rfl,fun _ h=>.inl h⟩
theorem HGood.freeze (hg : HGood E h c w) (ks : List Key) : HGood E (freezeAll (fun k=>hk k h) ks++h) (frzCtx h c ks) w:=by
 have look : ∀ k e,hk k (freezeAll (fun k=>hk k h) ks++h)=some e→∃ e0,hk k h=some e0∧((k ∈ ks∧e={ e0 with fz:=true })∨(k ∉ ks∧e=e0)):=fun k e he=>by
  rw [hk_freeze] at he
  split at he
  ·rename_i hm
   obtain ⟨e0,h1,h2⟩:=Option.map_eq_some_iff.1 he
   exact ⟨e0,h1,.inl ⟨hm,h2.symm⟩⟩
  ·rename_i hm
   exact ⟨e,he,.inr ⟨hm,rfl⟩⟩
 refine ⟨fun k e he=>?_,fun k e ad he had=>?_,fun k k' e e' ad ad' he he' had had' hne=>?_,fun b hb=>?_,fun b hb=>.inl (hg.le b hb),hg.bnd,hg.below⟩
 ·obtain ⟨e0,h0,hc⟩:=look k e he
  have hh:=hg.heap k e0 h0
  obtain ⟨a1,a2,a3⟩:=hh
  have hE : e.esz=e0.esz∧e.xs=e0.xs∧e.bx=e0.bx:=by rcases hc with ⟨_,rfl⟩ | ⟨_,rfl⟩ <;> exact ⟨rfl,rfl,rfl⟩
  refine ⟨a1,hE.1.trans a2,?_⟩
  show (match c.β k with | none=>_ | some ad=>_)
  cases hb : c.β k with
  | none=>rw [hb] at a3; rw [hE.1,hE.2.1]; exact a3
  | some ad =>
    rw [hb] at a3
    obtain ⟨b1,b2,b3,b4⟩:=a3
    rw [hE.1,hE.2.1,hE.2.2]
    refine ⟨b1,b2,RepRows.mono _ _ rfl _ _ (Mono.refl _ _) (sel_le e0.bx frz_le) b3,?_⟩
    rcases hc with ⟨hm,rfl⟩ | ⟨hm,rfl⟩
    ·exact ⟨fun _=>rfl,fun _=>.inr ⟨k,hm,e0,h0,ad,hb,rfl⟩⟩
    ·rw [← b4]
     refine ⟨fun hx=>?_,.inl⟩
     rcases hx with hx | ⟨k',m',e',h',ad',hb',hbl⟩
     ·exact hx
     ·exact absurd hbl (hg.apart k' k e' e ad' ad h' h0 hb' hb (fun hh=>hm (hh ▸ m')))
 ·obtain ⟨e0,h0,_⟩:=look k e he
  exact hg.fresh k e0 ad h0 had
 ·obtain ⟨e0,h0,_⟩:=look k e he
  obtain ⟨e1,h1,_⟩:=look k' e' he'
  exact hg.apart k k' e0 e1 ad ad' h0 h1 had had' hne
 ·rcases hb with hb | ⟨k,_,e,he,ad,had,rfl⟩
  ·exact hg.fz b hb
  ·exact ⟨(hg.fresh k e ad he had).2,.inr (hg.fresh k e ad he had).1⟩
theorem own_rep (hg : HGood E h c w) {c1 : Ctx} (hsub : ∀ b,c.Fz b→c1.Fz b) {g : Key} {esz off len : Nat} {full : Bool} {v : Value} {e : HE} (he : hk g h=some e) (hr : RepV w c (.own g esz off len full) v)
 (hb : e.bx=false) (hlen : off+len≤e.xs.length) (hF : ∀ b,blocksOf h c [g] b→c1.Fz b) : RepV w c1 (.vec esz false ((e.xs.drop off).take len)) v:=by
 obtain ⟨g1,g2,g3,a,cap,q1,q2,q3,q4,q5,q6⟩:=hr
 have hl : ((e.xs.drop off).take len).length=len:=by simp; omega
 have hh:=hg.heap g e he
 refine ⟨a,cap,by rw [hl]; exact q1,by rw [hl]; exact q2,q3,by rw [hl]; exact q4,by simp,?_⟩
 by_cases h0 : len=0
 ·left; subst h0; simp
 ·right
  obtain ⟨ad,b1,b2,b3,b4,b5⟩:=hh.block (by omega)
  rw [b1] at q6
  rcases q6 with q6 | ⟨q6,_⟩
  ·omega
  ·rw [hb] at b4
   have ee : esz=e.esz:=by rw [g2,hh.2.1]
   refine ⟨_,q6,rfl,hF _ ⟨g,by simp,e,he,ad,b1,rfl⟩,?_⟩
   rw [ee]
   exact RepRows.take _ (RepRows.drop _ (RepRows.mono _ _ rfl _ _ (c:=c.d) (c':=c1.d) (Mono.refl _ _) (Ctx.Le.d hsub) (by simpa using b4)))
theorem blocks_mono {ks js : List Key} (hs : ∀ k ∈ ks,k ∈ js) {b : Nat} (hb : blocksOf h c ks b) : blocksOf h c js b:=by
 obtain ⟨k,m,r⟩:=hb
 exact ⟨k,hs k m,r⟩
mutual
theorem reify0_rep (hg : HGood E h c w) {c1 : Ctx} (hsub : ∀ b,c.Fz b→c1.Fz b) : ∀ (x : PV) (v : Value),RepV w c x v→ok0 (fun k=>hk k h) x→(∀ b,blocksOf h c (keys0 x) b→c1.Fz b)→RepV w c1.d (reify0 (fun k=>hk k h) x) v
 | .undef,_,_,_,_=>trivial
 | .bool _,_,hr,_,_=>hr
 | .int _ _,_,hr,_,_=>hr
 | .str _,_,hr,_,_=>hr
 | .nilp,_,hr,_,_=>hr
 | .nilf,_,hr,_,_=>hr
 | .nili,_,hr,_,_=>hr
 | .raw _,_,hr,_,_=>hr
 | .opt _ _,_,_,_,_=>trivial
 | .ptr _ _ _ _,_,_,_,_=>trivial
 | .vec esz full xs,v,hr,_,_=>by
   obtain ⟨a,cap,q1,q2,q3,q4,q5,q6⟩:=hr
   refine ⟨a,cap,q1,q2,q3,q4,by simp,?_⟩
   rcases q6 with q6 | ⟨ad,e1,e2,e3,e4⟩
   ·exact .inl q6
   ·exact .inr ⟨ad,e1,e2,hsub _ e3,RepRows.mono _ _ rfl _ _ (c:=c.d) (c':=c1.d) (Mono.refl _ _) (Ctx.Le.d hsub) e4⟩
 | .ref cs,v,hr,_,_=>by
   obtain ⟨ad,e1,e2,e3,e4⟩:=hr
   exact ⟨ad,e1,e2,hsub _ e3,RepAt.mono _ rfl _ _ (c:=c.d) (c':=c1.d) (Mono.refl _ _) (Ctx.Le.d hsub) e4⟩
 | .mapf es,v,hr,_,_=>by
   obtain ⟨b,e1,e2,e3⟩:=hr
   exact ⟨b,e1,hsub _ e2,e3⟩
 | .own g esz off len full,v,hr,ho,hF=>by
   simp only [ok0] at ho
   simp only [reify0]
   cases he : hk g h with
   | none=>rw [he] at ho; exact ho.elim
   | some e =>
     rw [he] at ho
     exact own_rep hg (c1:=c1.d) hsub he hr ho.1 ho.2 hF
 | .agg cs,v,hr,ho,hF=>by
   obtain ⟨vs,e,r1,r2⟩:=hr
   exact ⟨vs,e,reify0L_rep hg hsub cs _ r1 ho hF,r2⟩
 | .tup cs,v,hr,ho,hF=>by
   obtain ⟨vs,e,r1⟩:=hr
   exact ⟨vs,e,reify0L_rep hg hsub cs _ r1 ho hF⟩
 | .fn f a b,v,hr,ho,hF=>by
   obtain ⟨x,y,e,r1,r2⟩:=hr
   exact ⟨x,y,e,reify0L_rep hg hsub a _ r1 ho.1 (fun b hb=>hF b (blocks_mono (by simp [keys0]; intro k1 k2 hk; exact .inl hk) hb)),reify0L_rep hg hsub b _ r2 ho.2 (fun b hb=>hF b (blocks_mono (by simp [keys0]; intro k1 k2 hk; exact .inr hk) hb))⟩
 | .iface t x,v,hr,ho,hF=>by
   obtain ⟨u,e,r1⟩:=hr
   exact ⟨u,e,reify0_rep hg hsub x u r1 ho hF⟩
theorem reify0L_rep (hg : HGood E h c w) {c1 : Ctx} (hsub : ∀ b,c.Fz b→c1.Fz b) : ∀ (xs : List PV) (vs : List Value),RepL w c xs vs→ok0L (fun k=>hk k h) xs→(∀ b,blocksOf h c (keys0L xs) b→c1.Fz b)→RepL w c1.d (reify0L (fun k=>hk k h) xs) vs
 | [],_,hr,_,_=>hr
 | x::xs,_,hr,ho,hF=>by
   obtain ⟨u,us,e,r1,r2⟩:=hr
   exact ⟨u,us,e,reify0_rep hg hsub x u r1 ho.1 (fun b hb=>hF b (blocks_mono (by simp [keys0L]; intro k1 k2 hk; exact .inl hk) hb)),reify0L_rep hg hsub xs us r2 ho.2 (fun b hb=>hF b (blocks_mono (by simp [keys0L]; intro k1 k2 hk; exact .inr hk) hb))⟩
end
theorem reify0At_rep (hg : HGood E h c w) {c1 : Ctx} (hsub : ∀ b,c.Fz b→c1.Fz b) (b : Nat) : ∀ (o : Nat) (xs : List PV),RepAt w c b o xs→ok0L (fun k=>hk k h) xs→(∀ b,blocksOf h c (keys0L xs) b→c1.Fz b)→RepAt w c1.d b o (reify0L (fun k=>hk k h) xs)
 | _,[],_,_,_=>trivial
 | o,x::xs,hr,ho,hF=>by
   obtain ⟨⟨v,e,e1,r1⟩,r2⟩:=hr
   exact ⟨⟨v,e,e1,reify0_rep hg hsub x v r1 ho.1 (fun b hb=>hF b (blocks_mono (by simp [keys0L]; intro k1 k2 hk; exact .inl hk) hb))⟩,reify0At_rep hg hsub b (o+1) xs r2 ho.2 (fun b hb=>hF b (blocks_mono (by simp [keys0L]; intro k1 k2 hk; exact .inr hk) hb))⟩
mutual
theorem reify_rep (hg : HGood E h c w) {c1 : Ctx} (hsub : ∀ b,c.Fz b→c1.Fz b) : ∀ (x : PV) (v : Value),RepV w c x v→okV (fun k=>hk k h) x→(∀ b,blocksOf h c (keysOf (fun k=>hk k h) x) b→c1.Fz b)→RepV w c1.d (reify (fun k=>hk k h) x) v
 | .undef,_,_,_,_=>trivial
 | .bool _,_,hr,_,_=>hr
 | .int _ _,_,hr,_,_=>hr
 | .str _,_,hr,_,_=>hr
 | .nilp,_,hr,_,_=>hr
 | .nilf,_,hr,_,_=>hr
 | .nili,_,hr,_,_=>hr
 | .raw _,_,hr,_,_=>hr
 | .opt _ _,_,_,_,_=>trivial
 | .ptr g esz i off,v,hr,ho,hF=>by
   simp only [okV] at ho
   simp only [reify]
   simp only [keysOf] at hF
   cases he : hk g h with
   | none=>rw [he] at ho; exact ho.elim
   | some e =>
     rw [he] at ho hF
     obtain ⟨o1,o2⟩:=ho
     obtain ⟨g1,g2,ad,g3,g4⟩:=hr
     have hh:=hg.heap g e he
     obtain ⟨ad',b1,b2,b3,b4,b5⟩:=hh.block (by omega)
     rw [g3] at b1
     obtain rfl:=Option.some.inj b1
     have ee : esz=e.esz:=by rw [g2,hh.2.1]
     obtain ⟨_,r2⟩:=RepRows.get i (e.xs.getD i []) b4.und' (by simp [List.getD,List.getElem?_eq_getElem o1])
     have r3:=RepAt.drop off r2
     refine ⟨_,g4,rfl,hF _ ⟨g,by simp,e,he,ad,g3,rfl⟩,?_⟩
     rw [ee]
     exact reify0At_rep hg (c1:=c1) hsub _ _ _ r3 o2 (fun b hb=>hF b (blocks_mono (fun k hk=>List.mem_cons_of_mem _ hk) hb))
 | .vec esz full xs,v,hr,_,_=>by
   obtain ⟨a,cap,q1,q2,q3,q4,q5,q6⟩:=hr
   refine ⟨a,cap,q1,q2,q3,q4,by simp,?_⟩
   rcases q6 with q6 | ⟨ad,e1,e2,e3,e4⟩
   ·exact .inl q6
   ·exact .inr ⟨ad,e1,e2,hsub _ e3,RepRows.mono _ _ rfl _ _ (c:=c.d) (c':=c1.d) (Mono.refl _ _) (Ctx.Le.d hsub) e4⟩
 | .ref cs,v,hr,_,_=>by
   obtain ⟨ad,e1,e2,e3,e4⟩:=hr
   exact ⟨ad,e1,e2,hsub _ e3,RepAt.mono _ rfl _ _ (c:=c.d) (c':=c1.d) (Mono.refl _ _) (Ctx.Le.d hsub) e4⟩
 | .mapf es,v,hr,_,_=>by
   obtain ⟨b,e1,e2,e3⟩:=hr
   exact ⟨b,e1,hsub _ e2,e3⟩
 | .own g esz off len full,v,hr,ho,hF=>by
   simp only [okV] at ho
   simp only [reify]
   cases he : hk g h with
   | none=>rw [he] at ho; exact ho.elim
   | some e =>
     rw [he] at ho
     exact own_rep hg (c1:=c1.d) hsub he hr ho.1 ho.2 hF
 | .agg cs,v,hr,ho,hF=>by
   obtain ⟨vs,e,r1,r2⟩:=hr
   exact ⟨vs,e,reifyL_rep hg hsub cs _ r1 ho hF,r2⟩
 | .tup cs,v,hr,ho,hF=>by
   obtain ⟨vs,e,r1⟩:=hr
   exact ⟨vs,e,reifyL_rep hg hsub cs _ r1 ho hF⟩
 | .fn f a b,v,hr,ho,hF=>by
   obtain ⟨x,y,e,r1,r2⟩:=hr
   exact ⟨x,y,e,reifyL_rep hg hsub a _ r1 ho.1 (fun b hb=>hF b (blocks_mono (by simp [keysOf]; intro k1 k2 hk; exact .inl hk) hb)),reifyL_rep hg hsub b _ r2 ho.2 (fun b hb=>hF b (blocks_mono (by simp [keysOf]; intro k1 k2 hk; exact .inr hk) hb))⟩
 | .iface t x,v,hr,ho,hF=>by
   obtain ⟨u,e,r1⟩:=hr
   exact ⟨u,e,reify_rep hg hsub x u r1 ho hF⟩
theorem reifyL_rep (hg : HGood E h c w) {c1 : Ctx} (hsub : ∀ b,c.Fz b→c1.Fz b) : ∀ (xs : List PV) (vs : List Value),RepL w c xs vs→okL (fun k=>hk k h) xs→(∀ b,blocksOf h c (keysL (fun k=>hk k h) xs) b→c1.Fz b)→RepL w c1.d (reifyL (fun k=>hk k h) xs) vs
 | [],_,hr,_,_=>hr
 | x::xs,_,hr,ho,hF=>by
   obtain ⟨u,us,e,r1,r2⟩:=hr
   exact ⟨u,us,e,reify_rep hg hsub x u r1 ho.1 (fun b hb=>hF b (blocks_mono (by simp [keysL]; intro k1 k2 hk; exact .inl hk) hb)),reifyL_rep hg hsub xs us r2 ho.2 (fun b hb=>hF b (blocks_mono (by simp [keysL]; intro k1 k2 hk; exact .inr hk) hb))⟩
end
end
end Go.Proofs.YtbdogkmdanmojaaGreatDoor.Pv
namespace Go.Proofs.YtbdogkmdanmojaaGreatDoor.Pv
open Go Go.RowKit
theorem foldSet (us : List Value) : ∀ (cells : Array Value) (off k : Nat),off+k+us.length≤cells.size →
 ((us.zipIdx k).foldl (fun cs p=>cs.setIfInBounds (off+p.2) p.1) cells).toList=cells.toList.take (off+k)++us++cells.toList.drop (off+k+us.length):=by
 induction us with
 | nil=>intro cells off k _; simp
 | cons v us ih =>
   intro cells off k hk
   simp only [List.zipIdx_cons,List.foldl_cons]
   simp only [List.length_cons] at hk
   rw [show off+k=off+k from rfl,ih (cells.setIfInBounds (off+k) v) off (k+1) (by simp; omega)]
   simp only [Array.toList_setIfInBounds,List.length_cons]
   have hl : off+k < cells.toList.length:=by simp; omega
   have e1 : (cells.toList.set (off+k) v).take (off+(k+1))=cells.toList.take (off+k)++[v]:=by
    rw [show off+(k+1)=(off+k)+1 by omega,List.take_add_one]
    rw [List.take_set_of_le (Nat.le_refl _)]
    rw [List.getElem?_set_self hl]; rfl
   have e2 : (cells.toList.set (off+k) v).drop (off+(k+1)+us.length)=cells.toList.drop (off+k+(us.length+1)):=by
    rw [List.drop_set_of_lt (by omega)]
    congr 1
    omega
   rw [e1,e2]
   simp
theorem foldSetA (v : Value) (cells : Array Value) (off : Nat) (h : off+v.cells.size≤cells.size) :
 (v.cells.zipIdx.foldl (fun cs (x : Value × Nat)=>cs.setIfInBounds (off+x.2) x.1) cells).toList=cells.toList.take off++v.cells.toList++cells.toList.drop (off+v.cells.size):=by
 rw [← Array.foldl_toList]
 have:=foldSet v.cells.toList cells off 0 (by simpa using h)
 simpa using this
inductive All2 {α β : Type} (R : α→β→Prop) : List α→List β→Prop
 | nil : All2 R [] []
 | cons {a : α} {b : β} {as : List α} {bs : List β} : R a b→All2 R as bs→All2 R (a::as) (b::bs)
theorem fill_ok {w : World} {c : Ctx} {ev : Operand→Value} {get : MO→PV} (place : Nat→Option (Nat × Nat)) :
 ∀ (ps : List (Nat × Operand)) (qs : List (Nat × Nat × MO)) (z : List PV) (cells0 : Array Value),
   All2 (fun p q=>place p.1=some (q.1,q.2.1)∧RepV w c (get q.2.2) (ev p.2)) ps qs→RepL w c z cells0.toList→(∀ u ∈ cells0.toList,u.oneCell'=true) →
   fillOk z.length (qs.map fun p=>(p.1,p.2.1,get p.2.2)) →
   ∃ cells',Instr.fill place cells0 (ps.map fun p=>(p.1,ev p.2))=some cells'∧RepL w c (fillP z (qs.map fun p=>(p.1,p.2.1,get p.2.2))) cells'.toList∧∀ u ∈ cells'.toList,u.oneCell'=true
 | [],_,z,cells0,hf,hz,h1,_=>by
   cases hf
   exact ⟨cells0,rfl,hz,h1⟩
 | (i,x)::ps,_,z,cells0,hf,hz,h1,hok=>by
   cases hf
   rename_i q qs hq hqs
   obtain ⟨⟨a1,a2,a3⟩,hok'⟩:=hok
   obtain ⟨r1,r2⟩:=cells_rep hq.2 a3
   have hlen : (ev x).cells.size=(cells (get q.2.2)).length:=by simpa using RepL.length r1
   have hcl : cells0.size=z.length:=by simpa using RepL.length hz
   have hfold:=foldSetA (ev x) cells0 q.1 (by rw [hlen,a1,hcl]; exact a2)
   have hrep : RepL w c (splice z q.1 (cells (get q.2.2))) ((ev x).cells.zipIdx.foldl (fun cs (x : Value × Nat)=>cs.setIfInBounds (q.1+x.2) x.1) cells0).toList:=by
    rw [hfold,hlen]
    exact RepL.append (RepL.append (RepL.take _ hz) r1) (RepL.drop _ hz)
   have hone : ∀ u ∈ ((ev x).cells.zipIdx.foldl (fun cs (x : Value × Nat)=>cs.setIfInBounds (q.1+x.2) x.1) cells0).toList,u.oneCell'=true:=by
    intro u hu
    rw [hfold] at hu
    rcases List.mem_append.1 hu with hu | hu
    ·rcases List.mem_append.1 hu with hu | hu
     ·exact h1 u (List.mem_of_mem_take hu)
     ·exact r2 u hu
    ·exact h1 u (List.mem_of_mem_drop hu)
   have hsl : (splice z q.1 (cells (get q.2.2))).length=z.length:=by
    simp [splice]; omega
   obtain ⟨cells',k1,k2,k3⟩:=fill_ok place ps qs _ _ hqs hrep hone (by rw [hsl]; exact hok')
   refine ⟨cells',?_,k2,k3⟩
   simp only [List.map_cons,Instr.fill,hq.1]
   rw [if_neg (by rw [hlen,a1]; simp; omega)]
   exact k1
theorem mapM_ok {P : Program} {α β : Type} {w : World} (f : α→Sem β) (g : α→β) : ∀ (l : List α),(∀ x ∈ l,(f x).run P w=.ok (g x) w)→(l.mapM f).run P w=.ok (l.map g) w
 | [],_=>rfl
 | x::l,h=>by
   rw [List.mapM_cons]
   simp only [Sem.run_bind,h x (by simp),Result.andThen_ok,mapM_ok f g l (fun y hy=>h y (by simp [hy])),Sem.run_pure,List.map_cons]
theorem mapMA_ok {P : Program} {α β : Type} {w : World} (f : α→Sem β) (g : α→β) (l : Array α) (h : ∀ x ∈ l.toList,(f x).run P w=.ok (g x) w) : (l.mapM f).run P w=.ok (l.map g) w:=by
 rw [Array.mapM_eq_mapM_toList]
 simp only [Sem.run_map,mapM_ok f g l.toList h,Result.andThen_ok]
 congr 1
 apply Array.ext'
 simp
section
variable {E : Env} {h : List (Key × Option HE)} {c : Ctx} {w : World} {ev : Operand→Value} {get : MO→PV} {o : Oper} {i : MI} {key : Key} {out : Out}
theorem parts_ok {fs : Array Field} : ∀ (ps : List (Nat × Operand)) (qs : List (Nat × Nat × MO)),toParts E.P E.nt fs ps=some qs→(∀ t x m,toO E.P E.nt t x=some m→m ∈ qs.map (fun q=>q.2.2)→RepV w c (get m) (ev x)) →
 All2 (fun p q=>(fs.map fun f=>(f.offset,szOf E.P f.type))[p.1]? = some (q.1,q.2.1)∧RepV w c (get q.2.2) (ev p.2)) ps qs
 | [],qs,hq,_=>by simp [toParts] at hq; subst hq; exact .nil
 | (i,x)::ps,qs,hq,hop=>by
   simp only [toParts] at hq
   split at hq
   ·rename_i f qs' h1 h2
    obtain ⟨y,hy,rfl⟩:=Option.map_eq_some_iff.1 hq
    exact .cons ⟨by simp [h1],hop _ x y hy (by simp)⟩ (parts_ok ps qs' h2 (fun t x m a b=>hop t x m a (by simp at b ⊢; exact .inr b)))
   ·cases hq
theorem partsA_ok {e : TypeId} : ∀ (ps : List (Nat × Operand)) (qs : List (Nat × Nat × MO)),toPartsA E.P E.nt e ps=some qs→(∀ t x m,toO E.P E.nt t x=some m→m ∈ qs.map (fun q=>q.2.2)→RepV w c (get m) (ev x)) →
 All2 (fun p q=>some (p.1 * szOf E.P e,szOf E.P e)=some (q.1,q.2.1)∧RepV w c (get q.2.2) (ev p.2)) ps qs
 | [],qs,hq,_=>by simp [toPartsA] at hq; subst hq; exact .nil
 | (i,x)::ps,qs,hq,hop=>by
   simp only [toPartsA] at hq
   split at hq
   ·rename_i qs' h2
    obtain ⟨y,hy,rfl⟩:=Option.map_eq_some_iff.1 hq
    exact .cons ⟨rfl,hop _ x y hy (by simp)⟩ (partsA_ok ps qs' h2 (fun t x m a b=>hop t x m a (by simp at b ⊢; exact .inr b)))
   ·cases hq
theorem does_build (t : TypeId) (ps : Array (Nat × Operand)) (ho : o.op=.build t ps) (hi : toI E.P E.nt o=some i) (hg : HGood E h c w) (hop : Opnd E c w ev get i)
 (hs : opSem key get (fun k=>hk k h) i=some out) (hp : out.pre) : Does E h c w ev o key out:=by
 simp only [toI,ho] at hi
 split at hi
 ·rename_i z fs hz hu
  split at hi
  ·rename_i hall
   obtain ⟨qs,hq,rfl⟩:=Option.map_eq_some_iff.1 hi
   obtain ⟨inf,zv,i1,i2,i3,i4,i5⟩:=zeroPV_ok hz
   obtain ⟨r1,r2⟩:=fitsL_rep (w:=w) (c:=c) i3
   simp only [opSem,Option.some.injEq] at hs
   subst hs
   have hpl : (fs.mapM (fun f=>do pure (f.offset,← sizeOf f.type)) : Sem (Array (Nat × Nat))).run E.P w=.ok (fs.map fun f=>(f.offset,szOf E.P f.type)) w:=by
    refine mapMA_ok _ _ fs (fun f hf=>?_)
    have hok : okT E.P f.type=true:=List.all_eq_true.1 hall f hf
    obtain ⟨inf',d',j1,j2,j3⟩:=info_okT (P:=E.P) (t:=f.type) (by rw [hok]; simp)
    simp [run_sizeOf j1,j3]
   obtain ⟨cells',k1,k2,k3⟩:=fill_ok (fun n=>(fs.map fun f=>(f.offset,szOf E.P f.type))[n]?) ps.toList qs z zv.cells (parts_ok _ _ hq (fun t x m a b=>hop t x m a (by simpa [MI.ops] using b))) r1 r2 hp
   refine Does.same (v:=.agg cells') ?_ rfl hg ⟨cells',rfl,k2,k3⟩
   have e1 : (ps.map fun p=>(p.1,ev p.2)).toList=ps.toList.map fun p=>(p.1,ev p.2):=by simp
   simp only [execOp,ho,Instr.build,Sem.run_bind,zeroValue,typeInfo,run_program,i1,i2,Result.andThen_ok,Sem.run_pure,run_underlying hu,hpl]
   rw [show (ps.map fun x=>match x with | (i,x)=>(i,ev x)).toList=ps.toList.map fun p=>(p.1,ev p.2) from by simp]
   rw [k1]
   rfl
  ·cases hi
 ·rename_i z n e hz hu
  split at hi
  ·rename_i hok
   obtain ⟨qs,hq,rfl⟩:=Option.map_eq_some_iff.1 hi
   obtain ⟨inf,zv,i1,i2,i3,i4,i5⟩:=zeroPV_ok hz
   obtain ⟨r1,r2⟩:=fitsL_rep (w:=w) (c:=c) i3
   simp only [opSem,Option.some.injEq] at hs
   subst hs
   obtain ⟨inf',d',j1,j2,j3⟩:=info_okT (P:=E.P) (t:=e) (by rw [hok]; simp)
   obtain ⟨cells',k1,k2,k3⟩:=fill_ok (fun n=>some (n * szOf E.P e,szOf E.P e)) ps.toList qs z zv.cells (partsA_ok _ _ hq (fun t x m a b=>hop t x m a (by simpa [MI.ops] using b))) r1 r2 hp
   refine Does.same (v:=.agg cells') ?_ rfl hg ⟨cells',rfl,k2,k3⟩
   simp only [execOp,ho,Instr.build,Sem.run_bind,zeroValue,typeInfo,run_program,i1,i2,Result.andThen_ok,Sem.run_pure,run_underlying hu,run_sizeOf j1]
   rw [show (ps.map fun x=>match x with | (i,x)=>(i,ev x)).toList=ps.toList.map fun p=>(p.1,ev p.2) from by simp]
   rw [← j3,k1]
   rfl
  ·cases hi
 ·cases hi
theorem flatten_len {α : Type} {n : Nat} : ∀ (xs : List (List α)),(∀ r ∈ xs,r.length=n)→xs.flatten.length=xs.length * n
 | [],_=>by simp
 | r::rs,h=>by
   simp only [List.flatten_cons,List.length_append,h r (by simp),flatten_len rs (fun x hx=>h x (by simp [hx])),List.length_cons,Nat.add_mul]
   omega
theorem flatten_set {α : Type} {n : Nat} : ∀ (xs : List (List α)) (i : Nat) (r : List α),(∀ r ∈ xs,r.length=n)→i < xs.length→r.length=n →
 (xs.set i r).flatten=xs.flatten.take (i * n)++r++xs.flatten.drop (i * n+n)
 | [],i,r,_,hi,_=>by simp at hi
 | x::xs,0,r,h,_,hr=>by
   have hx:=h x (by simp)
   simp [List.drop_append,hx]
 | x::xs,i+1,r,h,hi,hr=>by
   have hx:=h x (by simp)
   have ih:=flatten_set xs i r (fun y hy=>h y (by simp [hy])) (by simpa using hi) hr
   simp only [List.set_cons_succ,List.flatten_cons,ih,Nat.add_mul,Nat.one_mul]
   rw [List.take_append,List.drop_append,List.take_of_length_le (by omega : x.length≤i * n+n),List.drop_of_length_le (by omega : x.length≤i * n+n+n)]
   simp [hx,show i * n+n - n=i * n by omega,show i * n+n+n - n=i * n+n by omega]
theorem splice_len {row cs : List PV} {off : Nat} (h : off+cs.length≤row.length) : (splice row off cs).length=row.length:=by
 simp [splice]; omega
theorem flatten_split {α : Type} {n : Nat} : ∀ (xs : List (List α)) (i : Nat),(∀ r ∈ xs,r.length=n)→i < xs.length→(xs.flatten.drop (i * n)).take n=xs.getD i []
 | [],i,_,hi=>by simp at hi
 | x::xs,0,h,_=>by
   have hx:=h x (by simp)
   simp [List.take_append,← hx]
 | x::xs,i+1,h,hi=>by
   have hx:=h x (by simp)
   have ih:=flatten_split xs i (fun y hy=>h y (by simp [hy])) (by simpa using hi)
   simp only [List.flatten_cons,Nat.add_mul,Nat.one_mul]
   rw [List.drop_append,List.drop_of_length_le (by omega : x.length≤i * n+n)]
   simpa [hx,show i * n+n - n=i * n by omega] using ih
theorem flatten_splice {n : Nat} (xs : List (List PV)) (i off : Nat) (cs : List PV) (h : ∀ r ∈ xs,r.length=n) (hi : i < xs.length) (hc : off+cs.length≤n) :
 (xs.set i (splice (xs.getD i []) off cs)).flatten=xs.flatten.take (i * n+off)++cs++xs.flatten.drop (i * n+off+cs.length):=by
 have hrow : (xs.getD i []).length=n:=by
  have : xs.getD i []=xs[i]:=by simp [List.getD,hi]
  rw [this]; exact h _ (List.getElem_mem hi)
 rw [flatten_set xs i _ h hi (by rw [splice_len (by rw [hrow]; exact hc),hrow]),← flatten_split xs i h hi]
 have hle : (i+1) * n≤xs.length * n:=Nat.mul_le_mul_right _ hi
 have hfl:=flatten_len xs h
 rw [Nat.add_mul,Nat.one_mul] at hle
 simp only [splice]
 have e1 : xs.flatten.take (i * n+off)=xs.flatten.take (i * n)++((xs.flatten.drop (i * n)).take n).take off:=by
  rw [List.take_take,Nat.min_eq_left (by omega),List.take_add]
 have e2 : xs.flatten.drop (i * n+off+cs.length)=((xs.flatten.drop (i * n)).take n).drop (off+cs.length)++xs.flatten.drop (i * n+n):=by
  rw [List.drop_take,List.drop_drop]
  have : xs.flatten.drop (i * n+n)=(xs.flatten.drop (i * n+(off+cs.length))).drop (n - (off+cs.length)):=by
   rw [List.drop_drop]; congr 1; omega
  rw [this,List.take_append_drop]
  congr 1; omega
 rw [e1,e2]
 simp
theorem HGood.store (hg : HGood E h c w) {g : Key} {e : HE} {ad : Addr} (he : hk g h=some e) (had : c.β g=some ad) (hfz : e.fz=false) {k off : Nat} {cs : List PV} {us : List Value}
 (hk1 : k < e.xs.length) (hoff : off+cs.length≤(e.xs.getD k []).length) (hr : RepL w (if e.bx then c else c.d) cs us) (h1 : ∀ u ∈ us,u.oneCell'=true) :
 HGood E ((g,some { e with xs:=e.xs.set k (splice (e.xs.getD k []) off cs) })::h) c (w.setCells ad.block (ad.off+k * e.esz+off) us)∧Mono c.Fz w (w.setCells ad.block (ad.off+k * e.esz+off) us) ∧
  (∀ j,j < us.length→(w.cell? ⟨ad.block,ad.off+k * e.esz+off+j,none⟩).isSome=true)∧(∀ j,j < us.length→w.frozen? ⟨ad.block,ad.off+k * e.esz+off+j,none⟩=false):=by
 have hh:=hg.heap g e he
 obtain ⟨ad',q1,q2,⟨ca,el,fr,q3,q4,q5⟩,q6,q7⟩:=hh.block (by omega)
 rw [had] at q1
 obtain rfl:=Option.some.inj q1
 have hlens:=q6.lens
 have hrow : (e.xs.getD k []).length=e.esz:=by
  have : e.xs.getD k []=e.xs[k]:=by simp [List.getD,hk1]
  rw [this]; exact hlens _ (List.getElem_mem hk1)
 rw [hrow] at hoff
 have hul : us.length=cs.length:=hr.length
 have hnF : ¬ c.Fz ad.block:=fun hf=>by rw [q7.1 hf] at hfz; cases hfz
 have hm : Mono c.Fz w (w.setCells ad.block (ad.off+k * e.esz+off) us):=mono_setCells hnF _ _
 obtain ⟨vs,v1,v2,v3,v4⟩:=q6.vals
 have hle : (k+1) * e.esz≤e.xs.length * e.esz:=Nat.mul_le_mul_right _ hk1
 rw [Nat.add_mul,Nat.one_mul] at hle
 have hcell : ∀ j,j < vs.length→∃ v,w.cell? ⟨ad.block,ad.off+j,none⟩=some v:=fun j hj=>⟨vs[j],v4 j _ (List.getElem?_eq_getElem hj)⟩
 have hsome : ∀ j,j < us.length→(w.cell? ⟨ad.block,ad.off+k * e.esz+off+j,none⟩).isSome=true:=fun j hj=>by
  obtain ⟨v,hv⟩:=hcell (k * e.esz+off+j) (by omega)
  rw [show ad.off+k * e.esz+off+j=ad.off+(k * e.esz+off+j) by omega,hv]; rfl
 have hfroz : ∀ j,j < us.length→w.frozen? ⟨ad.block,ad.off+k * e.esz+off+j,none⟩=false:=fun j hj=>by
  have:=q5 (ad.off+k * e.esz+off+j) (by omega)
  simp only [World.frozen?,q3]
  simpa using this
 refine ⟨⟨?_,?_,?_,?_,hg.le,hg.bnd,below_setCells' (hg.fresh g e ad he had).1 _ _ hg.below⟩,hm,hsome,hfroz⟩
 ·intro k' e' he'
  rw [hk_cons] at he'
  split at he'
  ·rename_i e1
   subst e1
   simp only [Option.some.injEq] at he'
   subst he'
   refine ⟨hh.1,hh.2.1,?_⟩
   rw [had]
   obtain ⟨ca',c1,c2⟩:=heap_setCells_same ad.block us (ad.off+k * e.esz+off) w ca el fr q3
   refine ⟨q2,⟨ca',el,fr,c1,by simpa [c2] using q4,fun o ho=>q5 o (by omega)⟩,?_,q7⟩
   refine RepRows.of_list (vs:=vs.take (k * e.esz+off)++us++vs.drop (k * e.esz+off+us.length)) ?_ ?_ ?_ ?_
   ·rw [flatten_splice e.xs k off cs hlens hk1 hoff]
    refine RepL.mono _ _ (by rw [sel_fz]; exact hm) (Ctx.Le.refl _) ?_
    rw [hul]
    exact RepL.append (RepL.append (RepL.take _ v1) hr) (RepL.drop _ v1)
   ·intro u hu
    rcases List.mem_append.1 hu with hu | hu
    ·rcases List.mem_append.1 hu with hu | hu
     ·exact v2 u (List.mem_of_mem_take hu)
     ·exact h1 u hu
    ·exact v2 u (List.mem_of_mem_drop hu)
   ·intro r hr'
    rcases List.mem_or_eq_of_mem_set hr' with hr' | rfl
    ·exact hlens r hr'
    ·rw [splice_len (by rw [hrow]; exact hoff),hrow]
   ·intro j v hj
    by_cases hlo : j < k * e.esz+off
    ·rw [World.cell?_setCells_out _ _ _ _ _ (fun _ _=>.inl (by simp; omega))]
     rw [List.append_assoc,List.getElem?_append_left (by simp; omega),List.getElem?_take_of_lt hlo] at hj
     exact v4 j v hj
    ·by_cases hmid : j < k * e.esz+off+us.length
     ·have:=World.cell?_setCells_in ad.block us (ad.off+k * e.esz+off) w hsome (j - (k * e.esz+off)) (by omega)
      rw [show ad.off+k * e.esz+off+(j - (k * e.esz+off))=ad.off+j by omega] at this
      rw [this]
      rw [List.append_assoc,List.getElem?_append_right (by simp; omega),List.getElem?_append_left (by simp; omega)] at hj
      rw [← hj]
      have hlt : (k * e.esz+off)≤vs.length:=by omega
      rw [List.length_take,Nat.min_eq_left hlt,List.getElem?_eq_getElem]
     ·rw [World.cell?_setCells_out _ _ _ _ _ (fun _ _=>.inr (by simp; omega))]
      have hlt : (k * e.esz+off)≤vs.length:=by omega
      rw [List.getElem?_append_right (by simp; omega),List.getElem?_drop] at hj
      have:=v4 _ v hj
      simp only [List.length_append,List.length_take,Nat.min_eq_left hlt] at this
      rwa [show k * e.esz+off+us.length+(j - (k * e.esz+off+us.length))=j by omega] at this
  ·rename_i hne
   have hh':=hg.heap k' e' he'
   exact hh'.mono hm (Ctx.Le.refl c) (fun _ _=>Iff.rfl) (fun ad' had'=>heap_setCells_ne w _ _ _ (hg.apart k' g e' e ad' ad he' he had' had hne))
 ·intro k' e' ad' he' had'
  rw [hk_cons] at he'
  rw [size_setCells']
  split at he'
  ·rename_i e1
   subst e1
   exact hg.fresh _ e ad' he had'
  ·exact hg.fresh k' e' ad' he' had'
 ·intro k1 k2 e1 e2 a1 a2 he1 he2 ha1 ha2 hne
  rw [hk_cons] at he1 he2
  split at he1
  ·rename_i x1
   subst x1
   rw [if_neg (fun x=>hne x.symm)] at he2
   exact hg.apart _ _ e e2 a1 a2 he he2 ha1 ha2 hne
  ·split at he2
   ·rename_i x2
    subst x2
    exact hg.apart _ _ e1 e a1 a2 he1 he ha1 ha2 hne
   ·exact hg.apart _ _ e1 e2 a1 a2 he1 he2 ha1 ha2 hne
 ·intro b hb
  rw [size_setCells']
  exact hg.fz b hb
theorem HGood.cut (hg : HGood E h c w) {g : Key} {e : HE} {ad : Addr} (he : hk g h=some e) (had : c.β g=some ad) (hfz : e.fz=false) {n p : Nat} (hn : n≤e.xs.length) (us : List Value) (hp : ad.off+n * e.esz≤p) :
 HGood E ((g,some { e with xs:=e.xs.take n })::h) c (w.setCells ad.block p us)∧Mono c.Fz w (w.setCells ad.block p us):=by
 have hh:=hg.heap g e he
 obtain ⟨hU,hes,h3⟩:=hh
 rw [had] at h3
 obtain ⟨q2,⟨ca,el,fr,q3,q4,q5⟩,q6,q7⟩:=h3
 have hnF : ¬ c.Fz ad.block:=fun hf=>by rw [q7.1 hf] at hfz; cases hfz
 have hm : Mono c.Fz w (w.setCells ad.block p us):=mono_setCells hnF _ _
 have hle : n * e.esz≤e.xs.length * e.esz:=Nat.mul_le_mul_right _ hn
 refine ⟨⟨?_,?_,?_,?_,hg.le,hg.bnd,below_setCells' (hg.fresh g e ad he had).1 _ _ hg.below⟩,hm⟩
 ·intro k' e' he'
  rw [hk_cons] at he'
  split at he'
  ·rename_i e1
   subst e1
   simp only [Option.some.injEq] at he'
   subst he'
   refine ⟨hU,hes,?_⟩
   rw [had]
   obtain ⟨ca',c1,c2⟩:=heap_setCells_same ad.block us p w ca el fr q3
   refine ⟨q2,⟨ca',el,fr,c1,by rw [c2]; simp only [List.length_take]; rw [Nat.min_eq_left hn]; omega,fun o ho=>q5 o (by omega)⟩,?_,q7⟩
   have hr : RepRows w (if e.bx then c else c.d) e.esz ad.block ad.off (e.xs.take n):=RepRows.take _ q6
   exact RepRows.mono_cells (by rw [sel_fz]; exact hm) (Ctx.Le.refl _) _ _ _ _ (fun j _ j2=>World.cell?_setCells_out _ _ _ _ _ (fun _ _=>.inl (by simp only [List.length_take] at j2; rw [Nat.min_eq_left hn] at j2; simp only; omega))) hr
  ·rename_i hne
   have hh':=hg.heap k' e' he'
   exact hh'.mono hm (Ctx.Le.refl c) (fun _ _=>Iff.rfl) (fun ad' had'=>heap_setCells_ne w _ _ _ (hg.apart k' g e' e ad' ad he' he had' had hne))
 ·intro k' e' ad' he' had'
  rw [hk_cons] at he'
  rw [size_setCells']
  split at he'
  ·rename_i e1
   subst e1
   exact hg.fresh _ e ad' he had'
  ·exact hg.fresh k' e' ad' he' had'
 ·intro k1 k2 e1 e2 a1 a2 he1 he2 ha1 ha2 hne
  rw [hk_cons] at he1 he2
  split at he1
  ·rename_i x1
   subst x1
   rw [if_neg (fun x=>hne x.symm)] at he2
   exact hg.apart _ _ e e2 a1 a2 he he2 ha1 ha2 hne
  ·split at he2
   ·rename_i x2
    subst x2
    exact hg.apart _ _ e1 e a1 a2 he1 he ha1 ha2 hne
   ·exact hg.apart _ _ e1 e2 a1 a2 he1 he2 ha1 ha2 hne
 ·intro b hb
  rw [size_setCells']
  exact hg.fz b hb
theorem does_store (t : TypeId) (x y : Operand) (ho : o.op=.store t x y) (hi : toI E.P E.nt o=some i) (hg : HGood E h c w) (hop : Opnd E c w ev get i)
 (hs : opSem key get (fun k=>hk k h) i=some out) (hp : out.pre) : Does E h c w ev o key out:=by
 simp only [toI,ho] at hi
 split at hi
 ·cases hi
 ·rename_i hz
  obtain ⟨inf,d,i1,i2,i3⟩:=info_okT hz
  split at hi
  ·rename_i ma mx hma hmx
   simp only [Option.some.injEq] at hi
   subst hi
   have ha:=hop _ x ma hma (by simp [MI.ops])
   have hx:=hop _ y mx hmx (by simp [MI.ops])
   simp only [opSem] at hs
   split at hs
   ·rename_i g esz k off hga
    rw [hga] at ha
    split at hs
    ·rename_i e he
     split at hs
     ·cases hs
     ·rename_i hfz
      obtain ⟨a1,a2,ad,a3,a4⟩:=ha
      have hh:=hg.heap g e he
      have e1 : esz=e.esz:=by rw [a2,hh.2.1]
      have fin : ∀ (us : List Value),(ev y).cells.toList=us→us.length=szOf E.P t→(∀ u ∈ us,u.oneCell'=true) →
       (∀ j,j < us.length→(w.cell? ⟨ad.block,ad.off+k * e.esz+off+j,none⟩).isSome=true)→(∀ j,j < us.length→w.frozen? ⟨ad.block,ad.off+k * e.esz+off+j,none⟩=false) →
       (execOp ev o).run E.P w=.ok .skip (w.setCells ad.block (ad.off+k * e.esz+off) us):=by
       intro us hus hl r2 g3 g4
       subst hus
       have hsz : (ev y).cells.size=inf.size:=by
        rw [← i3,← hl]; simp
       have hst:=run_storeCells_cells (P:=E.P) ad.block (ad.off+k * e.esz+off) (ev y).cells.toList 0 w (by simpa using g3) (by simpa using g4) r2
       simp only [execOp,ho,a4,Instr.storeAt,Instr.sureAddr,storeVar,e1,Sem.run_bind,Sem.run_pure,Result.andThen_ok,run_sizeOf i1,hsz,ne_eq,not_true_eq_false,if_false]
       simp only [Nat.add_zero] at hst
       simp [hst]
      split at hs
      ·rename_i hbx
       simp only [Option.some.injEq] at hs
       subst hs
       obtain ⟨p1,p2,p3,p4⟩:=hp
       obtain ⟨r1,r2⟩:=cells_rep hx p4
       obtain ⟨g1,g2,g3,g4⟩:=hg.store he a3 (by simpa using hfz) p1 (by rw [p3]; exact p2) (by rw [if_pos hbx]; exact r1) r2
       exact ⟨.skip,undef,_,c,fin _ rfl (by rw [r1.length,p3]) r2 g3 g4,.inr ⟨rfl,rfl⟩,g1,trivial,Ctx.Le.refl c,g2,fun _ hk=>.inl hk⟩
      ·rename_i hbx
       simp only [Option.some.injEq] at hs
       subst hs
       obtain ⟨p1,p2,p3,p4,p5,p6⟩:=hp
       have hg':=hg.freeze (keysOf (fun k=>hk k h) (get mx))
       have hx':=reify_rep hg (c1:=frzCtx h c (keysOf (fun k=>hk k h) (get mx))) (fun _ hb=>.inl hb) _ _ hx p5 (fun _ hb=>.inr hb)
       obtain ⟨r1,r2⟩:=cells_rep hx' p4
       have hng : g ∉ keysOf (fun k=>hk k h) (get mx):=by simpa using p6
       obtain ⟨g1,g2,g3,g4⟩:=hg'.store (g:=g) (e:=e) (by rw [hk_freeze,if_neg hng]; exact he) a3 (by simpa using hfz) p1 (by rw [p3]; exact p2) (by rw [if_neg hbx]; exact r1) r2
       exact ⟨.skip,undef,_,_,fin _ rfl (by rw [r1.length,p3]) r2 g3 g4,.inr ⟨rfl,rfl⟩,g1,trivial,frz_le,g2.weaken (fun _ hb=>.inl hb),fun _ hk=>.inl hk⟩
    ·cases hs
   ·cases hs
  ·cases hi
end
end Go.Proofs.YtbdogkmdanmojaaGreatDoor.Pv
