/- Part 9. -/
import Derived.Test.YtjipnamfdmllmaaGreatDoorN8
import Derived.Scope
set_option linter.unusedSimpArgs false
set_option linter.unusedVariables false
namespace Go.Proofs.YtjipnamfdmllmaaGreatDoor.Pv
open Go Go.RowKit
def resOkB (st:St):List RV→Bool
 | []=>true
 | .tmp _::rs=>resOkB st rs
 | .cell a _ n ag::rs=>(match lk a st.s with
   | .ptr g _ i off=>match hk g st.h with
     | some e=>decide (i<e.xs.length)&&decide (off+n≤(e.xs.getD i []).length)&&(ag||decide (n=1))
     | none=>false
   | _=>false)&&resOkB st rs
theorem resOkB_ok {st:St}:∀ rs,resOkB st rs=true→resOk st rs
 | [],_=>trivial
 | .tmp _::rs,h=>resOkB_ok rs h
 | .cell a t n ag::rs,h=>by
   simp only[resOkB,Bool.and_eq_true] at h
   refine⟨?_,resOkB_ok rs h.2⟩
   have h1:=h.1
   split at h1
   ·rename_i g esz i off hx
    split at h1
    ·rename_i e he
     simp only[Bool.and_eq_true,decide_eq_true_eq,Bool.or_eq_true] at h1
     simp only[hx,he]
     exact⟨h1.1.1,h1.1.2,fun h=>h1.2.resolve_left (by simp[h])⟩
    ·cases h1
   ·cases h1
def finV (hl:Key→Option HE) (r:PV):Option Res:=if okVB hl r then some (.val (reify hl r)) else none
def finP (hl:Key→Option HE) (r:PV):Option Res:=match r with
 | .own g esz off len _=>(match hl g with
   | some e=>if !e.fz&&!e.bx&&decide (off+len≤e.xs.length) then some (.own esz ((e.xs.drop off).take len)) else finV hl r
   | none=>none)
 | r=>finV hl r
def exEnd:Ex→Bool
 | .normal|.ret=>true
 | _=>false
abbrev Tab:=FuncId→Option (MC × Nat × List RV)
abbrev Evn:=MC→St→Nat→Option (Ex × St × Nat)
abbrev Ext:=FuncId→List PV→Option Res
def cpIn (T:Tab) (evn:Evn) (f:FuncId) (args:List PV):Option Res:=match T f with
 | some (m,nt,rs)=>if Nat.ble args.length nt then (match evn m (St.init args) 0 with
   | some (ex,st,_)=>if exEnd ex&&resOkB st rs then finP (fun k=>hk k st.h) (resAll st rs) else none
   | none=>none) else none
 | none=>none
def cpOf (X:Ext) (T:Tab) (evn:Evn) (f:FuncId) (args:List PV):Option Res:=match X f args with
 | some r=>some r
 | none=>cpIn T evn f args
def ciOf (T:Tab) (evn:Evn) (f:FuncId) (args:List PV) (h:List (Key × Option HE)) (N:Nat):Option (PV × List (Key × Option HE) × Nat):=match T f with
 | some (m,nt,rs)=>if Nat.ble args.length nt then (match evn m ⟨(St.init args).s,h⟩ N with
   | some (ex,st,N')=>if exEnd ex&&resOkB st rs then some (resAll st rs,st.h,N') else none
   | none=>none) else none
 | none=>none
def ev (X:Ext) (T:Tab) (mode:FuncId→Bool):Nat→MC→St→Nat→Option (Ex × St × Nat)
 | 0,_,_,_=>none
 | n+1,m,st,N=>match m with
   | .skip=>some (.normal,st,N)
   | .reg ms=>(match evRun mode (cpOf X T (ev X T mode n)) (ciOf T (ev X T mode n)) ms st N with
     | some (st',N')=>some (.normal,st',N')
     | none=>none)
   | .draw un ms=>if Nat.blt N BIG then (match evD (cpOf X T (ev X T mode n)) un N ms [] st with
     | some st'=>some (.normal,st',N+1)
     | none=>none) else none
   | .seq x y=>(match ev X T mode n x st N with
     | some (.normal,st',N')=>ev X T mode n y st' N'
     | r=>r)
   | .cond c x y=>(match st.get c with
     | .bool true=>ev X T mode n x st N
     | .bool false=>ev X T mode n y st N
     | _=>none)
   | .block id x=>(match ev X T mode n x st N with
     | some (.exit j,st',N')=>if j=id then some (.normal,st',N') else some (.exit j,st',N')
     | r=>r)
   | .loop x=>(match ev X T mode n x st N with
     | some (.normal,st',N')=>ev X T mode n (.loop x) st' N'
     | r=>r)
   | .exit id=>some (.exit id,st,N)
   | .ret=>some (.ret,st,N)
   | .label _=>some (.normal,st,N)
   | .goto l=>some (.goto l,st,N)
   | .scope x=>(match ev X T mode n x st N with
     | some (.goto _,_,_)=>none
     | r=>r)
   | .bad=>none
   | .cut _=>none
def EvOk (P:Program) (evn:Evn):Prop :=
 ∀ (E:Env) (c:Code) (m:MC) (st:St) (N:Nat) (ex:Ex) (st' : St) (N' : Nat) (c0:Ctx) (a:Act) (w:World),E.P=P→toMC E.P E.nt c=some m→evn m st N=some (ex,st',N')→Good E st c0 a w→Bnd c0 N →
   c.wp E.P (fun e a' w'=>e=Ex.to ex∧∃ c',Good E st' c' a' w'∧Bnd c' N') a w
theorem finP_ok {P:Program} {f nt:Nat} {m:MC} {rs:List RV} {args:List PV} {evn:Evn} (hev:EvOk P evn) (hm:mfOf P f=some (m,nt,rs)) (hn:args.length≤nt) {ex:Ex} {st:St} {N:Nat} (he:evn m (St.init args) 0=some (ex,st,N)) (hex:exEnd ex=true) (hr:resOkB st rs=true) :
 (∀ r,finP (fun k=>hk k st.h) (resAll st rs)=some (.val r)→Ret P f args r)∧∀ esz xs,finP (fun k=>hk k st.h) (resAll st rs)=some (.own esz xs)→RetO P f args esz xs:=by
 have hro:=resOkB_ok rs hr
 have run:∀ (Q:Ex→St→Prop),(∀ e,exEnd e=true→Q e st)→∀ c,toMC P nt c=some m→∀ w0 F0 (hG:GOk P w0 F0) a,Good ⟨P,w0,F0,nt,[],0,hG⟩ (St.init args) (dctx F0) a w0→c.wp P (endQ ⟨P,w0,F0,nt,[],0,hG⟩ Q) a w0:=fun Q hQ c hc w0 F0 hG a hg=>by
  refine wp_mono (hev ⟨P,w0,F0,nt,[],0,hG⟩ c m _ 0 ex st N (dctx F0) a w0 rfl hc he hg (fun k hk=>hk.elim)) ?_
  rintro e a' w' ⟨rfl,c',hg',_⟩
  exact⟨ex,st,rfl,hQ ex hex,c',hg'⟩
 have val:∀ r,finV (fun k=>hk k st.h) (resAll st rs)=some (.val r)→Ret P f args r:=fun r hf=>by
  unfold finV at hf
  split at hf
  ·rename_i hok
   cases hf
   refine Ret.of_wp hm hn (run _ (fun e he=>?_))
   cases e<;>first|exact⟨hro,okVB_ok _ hok,rfl⟩|(simp[exEnd] at he)
  ·cases hf
 have noown:∀ esz xs,finV (fun k=>hk k st.h) (resAll st rs)=some (.own esz xs)→False:=fun esz xs hf=>by
  unfold finV at hf
  split at hf<;>cases hf
 refine⟨fun r hf=>?_,fun esz xs hf=>?_⟩
 ·unfold finP at hf
  split at hf
  ·split at hf
   ·split at hf
    ·cases hf
    ·exact val r hf
   ·cases hf
  ·exact val r hf
 ·unfold finP at hf
  split at hf
  ·rename_i g esz' off len full hx
   split at hf
   ·rename_i e he'
    split at hf
    ·rename_i hc
     cases hf
     simp only[Bool.and_eq_true,Bool.not_eq_true',decide_eq_true_eq] at hc
     have this:ownIs (fun k=>hk k st.h) esz ((e.xs.drop off).take len) (resAll st rs):=by
      rw[hx]
      refine⟨rfl,?_⟩
      simp only at he'
      simp only[he']
      exact⟨hc.1.1,hc.1.2,hc.2,trivial⟩
     refine RetO.of_wp hm hn (run _ (fun e1 he1=>?_))
     cases e1<;>first|exact⟨hro,this⟩|(simp[exEnd] at he1)
    ·exact (noown _ _ hf).elim
   ·cases hf
  ·exact (noown _ _ hf).elim
theorem cpIn_ok {P:Program} {T:Tab} (hT:∀ f m nt rs,T f=some (m,nt,rs)→mfOf P f=some (m,nt,rs)) {evn:Evn} (hev:EvOk P evn):CpOk P (cpIn T evn):=fun f args=>by
 have key:∀ res,cpIn T evn f args=some res→(∀ r,res=.val r→Ret P f args r)∧∀ esz xs,res=.own esz xs→RetO P f args esz xs:=fun res h=>by
  unfold cpIn at h
  split at h
  ·rename_i m nt rs ht
   split at h
   ·rename_i hle
    split at h
    ·rename_i ex st N he
     split at h
     ·rename_i hc
      simp only[Bool.and_eq_true] at hc
      obtain⟨k1,k2⟩:=finP_ok hev (hT _ _ _ _ ht) (Nat.le_of_ble_eq_true hle) he hc.1 hc.2
      exact⟨fun r hr=>k1 r (by rw[← hr]; exact h),fun esz xs hr=>k2 esz xs (by rw[← hr]; exact h)⟩
     ·cases h
    ·cases h
   ·cases h
  ·cases h
 exact⟨fun r h=>(key _ h).1 r rfl,fun esz xs h=>(key _ h).2 esz xs rfl⟩
theorem cpOf_ok {P:Program} {X:Ext} (hX:CpOk P X) {T:Tab} (hT:∀ f m nt rs,T f=some (m,nt,rs)→mfOf P f=some (m,nt,rs)) {evn:Evn} (hev:EvOk P evn):CpOk P (cpOf X T evn):=fun f args=>by
 have h1:=hX f args
 have h2:=cpIn_ok hT hev f args
 unfold cpOf
 cases hx:X f args with
 | some r=>rw[hx] at h1; exact h1
 | none=>exact h2
theorem ciOf_ok {P:Program} {T:Tab} (hT:∀ f m nt rs,T f=some (m,nt,rs)→mfOf P f=some (m,nt,rs)) {evn:Evn} (hev:EvOk P evn):CiOk P (ciOf T evn):=fun f args h N r h' N' hc=>by
 unfold ciOf at hc
 split at hc
 ·rename_i m nt rs ht
  split at hc
  ·rename_i hle
   split at hc
   ·rename_i ex st N'' he
    split at hc
    ·rename_i hend
     cases hc
     simp only[Bool.and_eq_true] at hend
     have hro:=resOkB_ok rs hend.2
     obtain⟨fn,c0,hf,hcb,hb,hnt,htm,hrs⟩:=mfOf_spec (hT _ _ _ _ ht)
     subst hnt
     refine⟨hcb,fun E a c w vs d s hP hg hbd hr=>?_⟩
     subst hP
     refine calls_of_wp hf hb ?_
     refine wp_mono (hev ⟨E.P,E.w0,E.F0,fn.ntmps,ghostOf E s a,E.V,E.glob⟩ c0 m _ N ex st N' c _ w rfl htm he (inl_begin hg hr (Nat.le_of_ble_eq_true hle)) hbd) ?_
     rintro e a' w' ⟨rfl,c',hg',hb'⟩
     have key:a'.defers=[]∧∃ v,(results fn a'.tmps).run E.P w'=.ok v w'∧∃ v',Ending.returned v=.returned v'∧∃ c'',Good E ⟨putS d (resAll st rs) s,st.h⟩ c'' (a.put d v') w'∧Bnd c'' N':=by
      obtain⟨v,k1,k2⟩:=resAll_run hg' hrs hro
      exact⟨hg'.defers.trans (dfs_ghost E s a),v,k1,v,rfl,c',inl_end hg hg' k2,hb'⟩
     cases ex with
     | normal=>exact key
     | ret=>exact key
     | exit id=>simp[exEnd] at hend
     | goto l=>simp[exEnd] at hend
    ·cases hc
   ·cases hc
  ·cases hc
 ·cases hc
theorem loop_rounds {P:Program} {X:Ext} {T:Tab} {mode:FuncId→Bool} {E:Env} (hP:E.P=P) {x:Code} {mx:MC} (hx:toMC E.P E.nt x=some mx) {ex:Ex} {st' : St} {N' : Nat}:∀ (n:Nat),(∀ k,k<n→EvOk P (ev X T mode k))→∀ (st:St) (N:Nat) (c0:Ctx) (a:Act) (w:World),
 ev X T mode n (.loop mx) st N=some (ex,st',N')→Good E st c0 a w→Bnd c0 N→Code.rounds E.P x (fun e a' w'=>e=Ex.to ex∧∃ c',Good E st' c' a' w'∧Bnd c' N') n a w
 | 0,_,st,N,c0,a,w,he,_,_=>by simp[ev] at he
 | n+1,hall,st,N,c0,a,w,he,hg,hb=>by
   rw[rounds_succ]
   simp only[ev] at he
   have ih:=hall n (Nat.lt_succ_self n)
   split at he
   ·rename_i st1 N1 hx1
    refine wp_mono (ih E x mx st N _ _ _ c0 a w hP hx hx1 hg hb) ?_
    rintro e a' w' ⟨rfl,c1,hg1,hb1⟩
    exact loop_rounds hP hx n (fun k hk=>hall k (Nat.lt_succ_of_lt hk)) st1 N1 c1 a' w' he hg1 hb1
   ·rename_i r hne
    refine wp_mono (ih E x mx st N _ _ _ c0 a w hP hx he hg hb) ?_
    rintro e a' w' ⟨rfl,hrest⟩
    cases ex with
    | normal=>exact (hne _ _ he).elim
    | exit i=>exact⟨rfl,hrest⟩
    | goto l=>exact⟨rfl,hrest⟩
    | ret=>exact⟨rfl,hrest⟩
theorem ev_ok {P:Program} {X:Ext} (hX:CpOk P X) {T:Tab} (hmix:P.follows .mixedOrders=true) (hT:∀ f m nt rs,T f=some (m,nt,rs)→mfOf P f=some (m,nt,rs)) {mode:FuncId→Bool}:∀ n,EvOk P (ev X T mode n):=by
 intro n
 induction n using Nat.strongRecOn with
 | _ n ihs =>
 cases n with
 | zero=>intro E c m st N ex st' N' c0 a w hP hc he; simp[ev] at he
 | succ n =>
   have ih:=ihs n (Nat.lt_succ_self n)
   intro E c m st N ex st' N' c0 a w hP hc he hg hb
   subst hP
   have hcp:=cpOf_ok hX hT ih
   have hci:=ciOf_ok hT ih
   cases c with
   | skip =>
     simp only[toMC,Option.some.injEq] at hc
     subst hc
     simp only[ev,Option.some.injEq,Prod.mk.injEq] at he
     obtain⟨rfl,rfl,rfl⟩:=he
     exact wp_skip ⟨rfl,c0,hg,hb⟩
   | region id ops d =>
     simp only[toMC] at hc
     split at hc
     ·rename_i ms hops
      cases d with
      | true =>
        simp only[if_true] at hc
        split at hc
        ·rename_i hok
         cases hc
         simp only[ev] at he
         split at he
         ·rename_i hlt
          have hN:N<BIG:=by simpa[Nat.blt_eq] using hlt
          split at he
          ·rename_i st1 hd
           simp only[Option.some.injEq,Prod.mk.injEq] at he
           obtain⟨rfl,rfl,rfl⟩:=he
           refine draw_at hmix hops hok hN (evD_ok hcp _ _ _ _ hd) hg hb (fun s c1 a1 w1 hs hg1 hb1=>?_)
           subst hs
           exact⟨rfl,c1,hg1,fun k hk=>(hb1 k hk).imp Nat.lt_succ_of_le (fun h=>h)⟩
          ·cases he
         ·cases he
        ·cases hc
      | false =>
        simp only[Bool.false_eq_true,if_false,Option.some.injEq] at hc
        subst hc
        simp only[ev] at he
        split at he
        ·rename_i st1 N1 hrun
         simp only[Option.some.injEq,Prod.mk.injEq] at he
         obtain⟨rfl,rfl,rfl⟩:=he
         exact wp_region_list (evRun_ok hcp hci (fun c1 a1 w1 hg1 hb1=>⟨rfl,c1,hg1,hb1⟩) _ _ _ _ _ _ _ hops hrun hg hb)
        ·cases he
     ·cases hc
   | seq x y =>
     simp only[toMC] at hc
     split at hc
     ·rename_i mx my h1 h2
      cases hc
      simp only[ev] at he
      split at he
      ·rename_i st1 N1 hx
       refine wp_seq (wp_mono (ih E x mx st N _ _ _ c0 a w rfl h1 hx hg hb) ?_)
       rintro e a' w' ⟨rfl,c1,hg1,hb1⟩
       exact ih E y my _ _ _ _ _ c1 a' w' rfl h2 he hg1 hb1
      ·rename_i r hne
       refine wp_seq (wp_mono (ih E x mx st N _ _ _ c0 a w rfl h1 he hg hb) ?_)
       rintro e a' w' ⟨rfl,hrest⟩
       cases ex with
       | normal=>exact (hne _ _ he).elim
       | exit i=>exact⟨rfl,hrest⟩
       | goto l=>exact⟨rfl,hrest⟩
       | ret=>exact⟨rfl,hrest⟩
     ·cases hc
   | cond q x y =>
     simp only[toMC] at hc
     split at hc
     ·rename_i mc mx my h0 h1 h2
      cases hc
      have hq:=hg.get h0
      simp only[ev] at he
      split at he
      ·rename_i hb1
       rw[hb1] at hq
       exact wp_cond_true hq (ih E x mx _ _ _ _ _ c0 a w rfl h1 he hg hb)
      ·rename_i hb1
       rw[hb1] at hq
       exact wp_cond_false hq (ih E y my _ _ _ _ _ c0 a w rfl h2 he hg hb)
      ·cases he
     ·cases hc
   | block id x =>
     simp only[toMC,Option.map_eq_some_iff] at hc
     obtain⟨mx,h1,rfl⟩:=hc
     simp only[ev] at he
     split at he
     ·rename_i j st1 N1 hx
      refine wp_block (wp_mono (ih E x mx st N _ _ _ c0 a w rfl h1 hx hg hb) ?_)
      rintro e a' w' ⟨rfl,c1,hg1,hb1⟩
      simp only[Ex.to,Exit.inBlock]
      split at he
      ·rename_i hj
       simp only[Option.some.injEq,Prod.mk.injEq] at he
       obtain⟨rfl,rfl,rfl⟩:=he
       rw[if_pos hj]
       exact⟨rfl,c1,hg1,hb1⟩
      ·rename_i hj
       simp only[Option.some.injEq,Prod.mk.injEq] at he
       obtain⟨rfl,rfl,rfl⟩:=he
       rw[if_neg hj]
       exact⟨rfl,c1,hg1,hb1⟩
     ·rename_i r hne
      refine wp_block (wp_mono (ih E x mx st N _ _ _ c0 a w rfl h1 he hg hb) ?_)
      rintro e a' w' ⟨rfl,hrest⟩
      cases ex with
      | normal=>exact⟨rfl,hrest⟩
      | exit i=>exact (hne _ _ _ he).elim
      | goto l=>exact⟨rfl,hrest⟩
      | ret=>exact⟨rfl,hrest⟩
   | loop x =>
     have hc':=hc
     simp only[toMC,Option.map_eq_some_iff] at hc
     obtain⟨mx,h1,rfl⟩:=hc
     exact wp_loop_rounds _ (loop_rounds rfl h1 (n+1) ihs st N c0 a w he hg hb)
   | exit id =>
     simp only[toMC,Option.some.injEq] at hc
     subst hc
     simp only[ev,Option.some.injEq,Prod.mk.injEq] at he
     obtain⟨rfl,rfl,rfl⟩:=he
     exact wp_exit ⟨rfl,c0,hg,hb⟩
   | ret =>
     simp only[toMC,Option.some.injEq] at hc
     subst hc
     simp only[ev,Option.some.injEq,Prod.mk.injEq] at he
     obtain⟨rfl,rfl,rfl⟩:=he
     exact wp_ret ⟨rfl,c0,hg,hb⟩
   | label l =>
     simp only[toMC,Option.some.injEq] at hc
     subst hc
     simp only[ev,Option.some.injEq,Prod.mk.injEq] at he
     obtain⟨rfl,rfl,rfl⟩:=he
     exact wp_label ⟨rfl,c0,hg,hb⟩
   | goto l =>
     simp only[toMC,Option.some.injEq] at hc
     subst hc
     simp only[ev,Option.some.injEq,Prod.mk.injEq] at he
     obtain⟨rfl,rfl,rfl⟩:=he
     exact wp_goto ⟨rfl,c0,hg,hb⟩
   | scope x =>
     simp only[toMC,Option.map_eq_some_iff] at hc
     obtain⟨mx,h1,rfl⟩:=hc
     simp only[ev] at he
     split at he
     ·cases he
     ·rename_i r hne
      refine wp_scope_straight (wp_mono (ih E x mx st N _ _ _ c0 a w rfl h1 he hg hb) ?_)
      rintro e a' w' ⟨rfl,hrest⟩
      cases ex with
      | normal=>exact⟨rfl,hrest⟩
      | exit i=>exact⟨rfl,hrest⟩
      | goto l=>exact (hne _ _ _ he).elim
      | ret=>exact⟨rfl,hrest⟩
   | _ =>
     simp only[toMC,Option.some.injEq] at hc
     subst hc
     simp[ev] at he
end Go.Proofs.YtjipnamfdmllmaaGreatDoor.Pv
