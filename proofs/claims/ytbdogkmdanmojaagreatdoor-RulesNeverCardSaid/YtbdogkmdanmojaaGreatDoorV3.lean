/- Part 3. -/
import Derived.Test.YtbdogkmdanmojaaGreatDoorV2
import Derived.Laws.MakeOwn
import Derived.Laws.BytesString
import Derived.Maps.Keyed
set_option linter.unusedSimpArgs false
set_option linter.unusedVariables false
namespace Go.Proofs.YtbdogkmdanmojaaGreatDoor.Pv
open Go Go.RowKit
theorem range_flat (zero : Array Value) : ∀ n : Nat,(((Array.range (n * zero.size)).map fun i=>zero[i % zero.size]!).toList)=(List.replicate n zero.toList).flatten
 | 0=>by simp
 | n+1=>by
   have ih:=range_flat zero n
   simp only [Array.toList_map,Array.toList_range] at ih ⊢
   rw [Nat.add_mul,Nat.one_mul,List.range_add,List.map_append,ih,List.replicate_succ',List.flatten_append]
   congr 1
   simp only [List.map_map,List.flatten_cons,List.flatten_nil,List.append_nil]
   apply List.ext_getElem
   ·simp
   ·intro j h1 h2
    simp only [List.length_map,List.length_range] at h1
    simp only [List.getElem_map,List.getElem_range,Function.comp]
    have e : (n * zero.size+j) % zero.size=j:=by
     rw [Nat.mul_comm,Nat.mul_add_mod,Nat.mod_eq_of_lt h1]
    simp [e,h1]
theorem heap_new (w w1 : World) (h : w1.heap=w.heap) (o : Obj) : (w1.alloc o).heap[w.heap.size]? = some o:=by
 show (w1.heap.push o)[w.heap.size]? = some o
 rw [← h]; simp
theorem RepL_rep {w : World} {c : Ctx} {z : List PV} {vs : List Value} (n : Nat) (h : RepL w c z vs) : RepL w c (List.replicate n z).flatten (List.replicate n vs).flatten:=by
 induction n with
 | zero=>rfl
 | succ n ih=>simp only [List.replicate_succ,List.flatten_cons]; exact RepL.append h ih
theorem fitsV_0 (hl : Key→Option HE) {x : PV} {v : Value} (h : fitsV x v=true) : fitsV (reify0 hl x) v=true:=by
 unfold fitsV at h
 split at h <;> first | exact h | cases h
theorem fitsL_0 (hl : Key→Option HE) : ∀ {xs : List PV} {vs : List Value},fitsL xs vs=true→fitsL (reify0L hl xs) vs=true
 | [],[],_=>rfl
 | [],_::_,h=>by simp [fitsL] at h
 | _::_,[],h=>by simp [fitsL] at h
 | x::xs,v::vs,h=>by
   simp only [fitsL,Bool.and_eq_true,reify0L] at h ⊢
   exact ⟨fitsV_0 hl h.1,fitsL_0 hl h.2⟩
theorem reify0L_len (hl : Key→Option HE) : ∀ xs : List PV,(reify0L hl xs).length=xs.length
 | []=>rfl
 | x::xs=>by simp [reify0L,reify0L_len hl xs]
theorem okL_mem {hl : Key→Option HE} : ∀ {xs : List PV} {x : PV},okL hl xs→x ∈ xs→okV hl x
 | [],_,_,hx=>by simp at hx
 | y::ys,x,h,hx=>by
   rcases List.mem_cons.1 hx with rfl | hx
   ·exact h.1
   ·exact okL_mem h.2 hx
theorem keysL_mem {hl : Key→Option HE} : ∀ {xs : List PV} {x : PV} {k : Key},x ∈ xs→k ∈ keysOf hl x→k ∈ keysL hl xs
 | [],_,_,hx,_=>by simp at hx
 | y::ys,x,k,hx,hk=>by
   simp only [keysL,List.mem_append]
   rcases List.mem_cons.1 hx with rfl | hx
   ·exact .inl hk
   ·exact .inr (keysL_mem hx hk)
section
variable {E : Env} {h : List (Key × Option HE)} {c : Ctx} {w : World} {ev : Operand→Value} {get : MO→PV} {o : Oper} {i : MI} {key : Key} {out : Out}
theorem partsS_ok {e : TypeId} : ∀ (ps : List (Nat × Operand)) (qs : List (Nat × MO)),toPartsS E.P E.nt e ps=some qs→(∀ t x m,toO E.P E.nt t x=some m→m ∈ qs.map (fun q=>q.2)→RepV w c (get m) (ev x)) →
 All2 (fun p q=>p.1=q.1∧RepV w c (get q.2) (ev p.2)) ps qs
 | [],qs,hq,_=>by simp [toPartsS] at hq; subst hq; exact .nil
 | (i,x)::ps,qs,hq,hop=>by
   simp only [toPartsS] at hq
   split at hq
   ·rename_i qs' h2
    obtain ⟨y,hy,rfl⟩:=Option.map_eq_some_iff.1 hq
    exact .cons ⟨rfl,hop _ x y hy (by simp)⟩ (partsS_ok ps qs' h2 (fun t x m a b=>hop t x m a (by simp at b ⊢; exact .inr b)))
   ·cases hq
theorem fillR_ok (esz : Nat) :
 ∀ (ps : List (Nat × Operand)) (qs : List (Nat × MO)) (z : List (List PV)) (cells0 : Array Value),
   All2 (fun p q=>p.1=q.1∧RepV w c (get q.2) (ev p.2)) ps qs→RepL w c z.flatten cells0.toList→(∀ r ∈ z,r.length=esz)→(∀ u ∈ cells0.toList,u.oneCell'=true) →
   fillROk esz z.length (qs.map fun p=>(p.1,get p.2)) →
   ∃ cells',Instr.fill (fun i=>some (i * esz,esz)) cells0 (ps.map fun p=>(p.1,ev p.2))=some cells'∧RepL w c (fillR z (qs.map fun p=>(p.1,get p.2))).flatten cells'.toList ∧
     (∀ r ∈ fillR z (qs.map fun p=>(p.1,get p.2)),r.length=esz)∧(fillR z (qs.map fun p=>(p.1,get p.2))).length=z.length∧∀ u ∈ cells'.toList,u.oneCell'=true
 | [],_,z,cells0,hf,hz,hl,h1,_=>by
   cases hf
   exact ⟨cells0,rfl,hz,hl,rfl,h1⟩
 | (i,x)::ps,_,z,cells0,hf,hz,hl,h1,hok=>by
   cases hf
   rename_i q qs hq hqs
   obtain ⟨hq1,hq2⟩:=hq
   simp only at hq1
   subst hq1
   obtain ⟨⟨a1,a2,a3⟩,hok'⟩:=hok
   obtain ⟨r1,r2⟩:=cells_rep hq2 a3
   have hlen : (ev x).cells.size=esz:=by rw [← a1]; simpa using RepL.length r1
   have hcl : cells0.size=z.length * esz:=by rw [← flatten_len z hl]; simpa using RepL.length hz
   have hle : (q.1+1) * esz≤z.length * esz:=Nat.mul_le_mul_right _ a2
   rw [Nat.add_mul,Nat.one_mul] at hle
   have hfold:=foldSetA (ev x) cells0 (q.1 * esz) (by omega)
   have hrep : RepL w c (z.set q.1 (cells (get q.2))).flatten ((ev x).cells.zipIdx.foldl (fun cs (x : Value × Nat)=>cs.setIfInBounds (q.1 * esz+x.2) x.1) cells0).toList:=by
    rw [hfold,flatten_set z q.1 _ hl a2 a1,hlen]
    exact RepL.append (RepL.append (RepL.take _ hz) r1) (RepL.drop _ hz)
   have hone : ∀ u ∈ ((ev x).cells.zipIdx.foldl (fun cs (x : Value × Nat)=>cs.setIfInBounds (q.1 * esz+x.2) x.1) cells0).toList,u.oneCell'=true:=by
    intro u hu
    rw [hfold] at hu
    rcases List.mem_append.1 hu with hu | hu
    ·rcases List.mem_append.1 hu with hu | hu
     ·exact h1 u (List.mem_of_mem_take hu)
     ·exact r2 u hu
    ·exact h1 u (List.mem_of_mem_drop hu)
   have hl' : ∀ r ∈ z.set q.1 (cells (get q.2)),r.length=esz:=by
    intro r hr
    rcases List.mem_or_eq_of_mem_set hr with hr | rfl
    ·exact hl r hr
    ·exact a1
   obtain ⟨cells',k1,k2,k3,k4,k5⟩:=fillR_ok esz ps qs _ _ hqs hrep hl' hone (by simpa using hok')
   refine ⟨cells',?_,k2,k3,by rw [← List.length_set (as:=z) (i:=q.1) (a:=cells (get q.2))]; exact k4,k5⟩
   simp only [List.map_cons,Instr.fill]
   rw [if_neg (by simp [hlen]; omega)]
   exact k1
theorem does_bslice (t : TypeId) (n : Nat) (ps : Array (Nat × Operand)) (ho : o.op=.buildSlice t n ps) (hi : toI E.P E.nt o=some i) (hg : HGood E h c w) (hkey : ¬ c.U key) (hop : Opnd E c w ev get i)
 (hs : opSem key get (fun k=>hk k h) i=some out) (hp : out.pre) : Does E h c w ev o key out:=by
 simp only [toI,ho] at hi
 split at hi
 ·rename_i e hte
  split at hi
  ·rename_i z qs hz hq
   split at hi
   ·rename_i hc
    simp only [Bool.and_eq_true,decide_eq_true_eq] at hc
    obtain ⟨⟨c1,c2⟩,c3⟩:=hc
    simp only [Option.some.injEq] at hi
    subst hi
    obtain ⟨inf,zv,i1,i2,i3,i4,i5⟩:=zeroPV_ok hz
    simp only [opSem,Option.some.injEq] at hs
    subst hs
    obtain ⟨p1,pk,p2,p3,p4⟩:=hp
    generalize hks : keysL (fun k=>hk k h) (qs.map fun p=>get p.2)=ks at p1 pk ⊢
    have hgf:=hg.freeze ks
    obtain ⟨r1,r2⟩:=fitsL_rep (w:=w) (c:=(frzCtx h c ks).d) (fitsL_0 (fun _=>none) i3)
    have i5' : (reify0L (fun _=>none) z).length=inf.size:=by rw [reify0L_len]; exact i5
    have hsz : szOf E.P e=inf.size:=by simp [szOf,i1]
    have hzs : zv.cells.size=inf.size:=by rw [← i5']; simpa using RepL.length r1
    have hzl : ∀ r ∈ List.replicate n (reify0L (fun _=>none) z),r.length=szOf E.P e:=fun r hr=>by rw [List.eq_of_mem_replicate hr,i5',hsz]
    have hrep0 : RepL w (frzCtx h c ks).d (List.replicate n (reify0L (fun _=>none) z)).flatten (List.replicate n zv.cells.toList).flatten:=RepL_rep n r1
    have hone0 : ∀ u ∈ (List.replicate n zv.cells.toList).flatten,u.oneCell'=true:=fun u hu=>by
     obtain ⟨l,hl,hu⟩:=List.mem_flatten.1 hu
     rw [List.eq_of_mem_replicate hl] at hu
     exact r2 u hu
    have hflat : ((Array.range (n * inf.size)).map fun i=>zv.cells[i % zv.cells.size]!).toList=(List.replicate n zv.cells.toList).flatten:=by
     rw [← hzs]; exact range_flat zv.cells n
    obtain ⟨cells',k1,k2,k3,k4,k5⟩:=fillR_ok (c:=(frzCtx h c ks).d) (get:=fun m=>reify (fun k=>hk k h) (get m)) (szOf E.P e) ps.toList qs (List.replicate n (reify0L (fun _=>none) z)) ((Array.range (n * inf.size)).map fun i=>zv.cells[i % zv.cells.size]!) (partsS_ok _ _ hq (fun t x m a b=>by
     have hm' : get m ∈ qs.map fun p=>get p.2:=by
      obtain ⟨q,q1,q2⟩:=List.mem_map.1 b
      exact List.mem_map.2 ⟨q,q1,by rw [q2]⟩
     refine reify_rep hg (c1:=frzCtx h c ks) (fun _ hb=>.inl hb) _ _ (hop t x m a (by simpa [MI.ops] using b)) (okL_mem pk hm') (fun b hb=>.inr (blocks_mono (fun k hk=>?_) hb))
     rw [← hks]
     exact keysL_mem hm' hk))
     (by rw [hflat]; exact hrep0) hzl (by rw [hflat]; exact hone0) (by simpa using p1)
    obtain ⟨g1,g2⟩:=hgf.extend (key:=key) hkey (cs:=cells') (el:=e) (n:=szOf E.P e) (vs:=cells'.toList) false (by simpa using k2) k5 k3 (fun j v hj=>by simpa using hj) (by rw [← flatten_len _ k3,← RepL.length k2,Array.length_toList]; exact Nat.le_refl _) w (.inl rfl)
    have hcs : cells'.size=n * szOf E.P e:=by
     have:=RepL.length k2
     rw [flatten_len _ k3,k4,List.length_replicate] at this
     simpa using this
    refine ⟨_,.slice (some ⟨w.heap.size,0,none⟩) n n,_,_,?_,.inl rfl,g1,?_,frz_le.trans (newCtx_le (c:=frzCtx h c ks) hkey),g2.weaken (fun _ hb=>.inl hb),fun _ hk=>hk⟩
    ·have hbig : ¬ (2 ^ 24 < n * inf.size):=by
        rw [← hsz]
        have : n * szOf E.P e≤1024 * 1024:=Nat.mul_le_mul c1 c2
        omega
     simp only [execOp,ho,Instr.buildSlice,Sem.run_bind,run_underlying hte,Result.andThen_ok,run_sizeOf i1,gt_iff_lt,hbig,if_false]
     rw [show (ps.map fun x=>match x with | (i,x)=>(i,ev x)).toList=ps.toList.map fun p=>(p.1,ev p.2) from by simp]
     rw [← hsz] at k1 ⊢
     by_cases h0 : n * szOf E.P e=0
     ·have e0 : ((Array.range (n * szOf E.P e)).map fun i=>zv.cells[i % zv.cells.size]!)=((Array.range (n * szOf E.P e)).map fun x=>(#[] : Array Value)[x % (#[] : Array Value).size]!):=by rw [h0]; simp
      rw [e0] at k1
      simp only [h0,if_true,Sem.run_bind,Sem.run_pure,Result.andThen_ok]
      rw [h0] at k1
      rw [k1]
      simp [newRow]
     ·simp only [h0,if_false,Sem.run_bind,Sem.run_pure,Result.andThen_ok,zeroValue,typeInfo,run_program,i1,i2]
      rw [k1]
      simp [newRow]
    ·refine ⟨Or.inr rfl,(if_pos rfl).symm,p3,_,_,rfl,Nat.le_refl _,by omega,by unfold LIM; omega,fun _=>rfl,?_⟩
     rw [show (newCtx (frzCtx h c ks) key (some ⟨w.heap.size,0,none⟩) (szOf E.P e)).β key=some ⟨w.heap.size,0,none⟩ from if_pos rfl]
     refine .inr ⟨by simp,cells',e,(0,0),by simp [World.alloc,-World.alloc_eq],by simp [hcs]⟩
   ·cases hi
  ·cases hi
 ·cases hi
theorem does_mksl (t : TypeId) (xl xc : Operand) (ho : o.op=.makeSlice t xl xc) (hi : toI E.P E.nt o=some i) (hg : HGood E h c w) (hkey : ¬ c.U key) (hop : Opnd E c w ev get i)
 (hs : opSem key get (fun k=>hk k h) i=some out) (hp : out.pre) : Does E h c w ev o key out:=by
 simp only [toI,ho] at hi
 split at hi
 ·rename_i e hte
  split at hi
  ·rename_i z ml mc inf hz hml hmc hinf
   split at hi
   ·rename_i hc
    simp only [Bool.and_eq_true,decide_eq_true_eq] at hc
    obtain ⟨c1,c2⟩:=hc
    cases hi
    obtain ⟨inf',zv,i1,i2,i3,i4,i5⟩:=zeroPV_ok hz
    rw [hinf] at i1
    obtain rfl:=Option.some.inj i1
    have hl:=hop _ xl ml hml (by simp [MI.ops])
    have hcc:=hop _ xc mc hmc (by simp [MI.ops])
    simp only [opSem] at hs
    split at hs
    ·rename_i kl n kc m hgl hgc
     cases hs
     rw [hgl] at hl
     rw [hgc] at hcc
     obtain ⟨p1,p2,p3,p4,p5⟩:=hp
     have hsz : szOf E.P e=inf.size:=by simp [szOf,hinf]
     obtain ⟨r1,r2⟩:=fitsL_rep (w:=w) (c:=c.d) (fitsL_0 (fun _=>none) i3)
     have i5' : (reify0L (fun _=>none) z).length=inf.size:=by rw [reify0L_len]; exact i5
     have hzs : zv.cells.size=inf.size:=by rw [← i5']; simpa using RepL.length r1
     have hrun:=run_make (P:=E.P) w t e inf zv hte hinf i2 kl kc n m p3 p4 (by
      have : (inf.bytes : Int) * m≤2048 * 34359738368:=Int.mul_le_mul (by omega) p5 (by omega) (by omega)
      omega) (by omega)
     have hcl : (madeCells zv.cells (m.toNat * inf.size)).toList=(List.replicate m.toNat zv.cells.toList).flatten:=by
      rw [← hzs]; exact range_flat zv.cells m.toNat
     have hcs : (madeCells zv.cells (m.toNat * inf.size)).size=m.toNat * inf.size:=by
      rw [← Array.length_toList,hcl,flatten_len (n:=inf.size) _ (fun r hr=>by rw [List.eq_of_mem_replicate hr]; simpa using hzs)]
      simp
     obtain ⟨g1,g2⟩:=hg.extend hkey (cs:=madeCells zv.cells (m.toNat * inf.size)) (el:=e) (n:=szOf E.P e) (xs:=List.replicate n.toNat (reify0L (fun _=>none) z)) (vs:=(List.replicate n.toNat zv.cells.toList).flatten) false
      (by simpa using RepL_rep n.toNat r1) (fun u hu=>by
       obtain ⟨l,hl,hu⟩:=List.mem_flatten.1 hu
       rw [List.eq_of_mem_replicate hl] at hu
       exact r2 u hu) (fun r hr=>by rw [List.eq_of_mem_replicate hr,i5',hsz]) (fun j v hj=>by
       have hlt:=(List.getElem?_eq_some_iff.1 hj).1
       rw [← Array.getElem?_toList,hcl,show m.toNat=n.toNat+(m.toNat - n.toNat) by omega,← List.replicate_append_replicate,List.flatten_append,List.getElem?_append_left hlt]
       exact hj) (by rw [hcs,List.length_replicate,hsz]; exact Nat.mul_le_mul_right _ (by omega)) w (.inl rfl)
     refine ⟨_,.slice (some ⟨w.heap.size,0,none⟩) n.toNat m.toNat,_,_,?_,.inl rfl,g1,?_,newCtx_le hkey,g2,fun _ hk=>hk⟩
     ·simp [execOp,ho,hl.1,hcc.1,hrun]
     ·refine ⟨.inr rfl,(if_pos rfl).symm,p2,_,_,rfl,by omega,by omega,by unfold LIM; omega,fun hf=>by simp at hf; omega,?_⟩
      rw [show (newCtx c key (some ⟨w.heap.size,0,none⟩) (szOf E.P e)).β key=some ⟨w.heap.size,0,none⟩ from if_pos rfl]
      refine .inr ⟨by simp,_,e,(0,0),heap_new w w rfl _,?_⟩
      simp only [Nat.zero_add]
      rw [hcs,hsz]
      exact Nat.le_refl _
    ·cases hs
   ·cases hi
  ·cases hi
 ·cases hi
theorem srcOf {P : Program} (w : World) {size : Nat} {tx : TypeId} (hk : (∃ e',P.underlying tx=some (.slice e'))∨P.underlying tx=some .string) (a : Addr) (n c : Nat) (news : List Value) (hl : news.length=n * size) (hnews : ∀ (j : Nat) (u : Value),news[j]? = some u→w.cell? (a.add j)=some u)
 (h1 : ∀ u ∈ news,u.oneCell'=true) : Src P size tx (.slice (some a) n c) n news w :=
 ⟨hk,fun _=>rfl,run_firstCells_some w size n a n c news hl hnews,run_firstCells_some w.drew size n a n c news hl (by simpa using hnews),hl,h1⟩
theorem slice_src {P : Program} {tx : TypeId} (hk' : (∃ e',P.underlying tx=some (.slice e'))∨P.underlying tx=some .string) (hg : HGood E h c w) {x : PV} {v : Value} (hr : RepV w c x v) {po : Prop} {xe : Nat} {rd : List Nat} {cx : List (List PV)} {size : Nat}
 (hro : rowsOf (fun k=>hk k h) x=some (po,xe,rd,cx)) (hpo : po) (hsz : cx=[]∨xe=size) :
 ∃ news : List Value,RepL w c.d cx.flatten news∧(∀ r ∈ cx,r.length=xe)∧Src P size tx v cx.length news w:=by
 unfold rowsOf at hro
 split at hro
 ·rename_i esz full xs
  simp only [Option.some.injEq,Prod.mk.injEq] at hro
  obtain ⟨rfl,rfl,rfl,rfl⟩:=hro
  obtain ⟨a,cap,q1,q2,q3,q4,q5,q6⟩:=hr
  rcases q6 with q6 | ⟨ad,q6,q7,q8,q9⟩
  ·subst q6
   refine ⟨[],rfl,by simp,?_⟩
   subst q1
   cases a with
   | none=>exact ⟨hk',fun _=>rfl,run_firstCells_none w size 0 0 cap,run_firstCells_none w.drew size 0 0 cap,by simp,fun _ h=>by cases h⟩
   | some ad=>exact srcOf w hk' ad 0 cap [] (by simp) (by simp) (by simp)
  ·obtain ⟨vs,v1,v2,v3,v4⟩:=q9.vals
   refine ⟨vs,v1,q9.lens,?_⟩
   subst q1 q6
   by_cases hx : xs=[]
   ·subst hx
    exact srcOf w hk' ad _ cap vs (by simpa using v3) (fun j u hj=>by rw [addr_of q7,add_at]; exact v4 j u hj) v2
   ·have:=hsz.resolve_left hx
    subst this
    exact srcOf w hk' ad _ cap vs v3 (fun j u hj=>by rw [addr_of q7,add_at]; exact v4 j u hj) v2
 ·rename_i g esz off len full
  split at hro
  ·rename_i e he
   simp only [Option.some.injEq,Prod.mk.injEq] at hro
   obtain ⟨rfl,rfl,rfl,rfl⟩:=hro
   obtain ⟨g1,g2,g3,a,cap,q1,q2,q3,q4,q5,q6⟩:=hr
   have hlen : ((e.xs.drop off).take len).length=len:=by have:=hpo.2; simp; omega
   have hh:=hg.heap g e he
   by_cases h0 : len=0
   ·subst h0
    refine ⟨[],by simp [RepL],by simp,?_⟩
    rw [hlen]
    subst q1
    cases a with
    | none=>exact ⟨hk',fun _=>rfl,run_firstCells_none w size 0 0 cap,run_firstCells_none w.drew size 0 0 cap,by simp,fun _ h=>by cases h⟩
    | some ad=>exact srcOf w hk' ad 0 cap [] (by simp) (by simp) (by simp)
   ·obtain ⟨ad,b1,b2,b3,b4,b5⟩:=hh.block (by have:=hpo.2; omega)
    rw [b1] at q6
    rcases q6 with q6 | ⟨q6,_⟩
    ·omega
    ·have ee : esz=e.esz:=by rw [g2,hh.2.1]
     have hrows : RepRows w c.d e.esz ad.block (ad.off+off * e.esz) ((e.xs.drop off).take len):=RepRows.take _ (RepRows.drop _ (by rw [hpo.1] at b4; simpa using b4))
     obtain ⟨vs,v1,v2,v3,v4⟩:=hrows.vals
     have hne : (e.xs.drop off).take len ≠ []:=fun hx=>by rw [hx] at hlen; simp at hlen; omega
     have hs':=hsz.resolve_left hne
     refine ⟨vs,v1,by rw [ee]; exact hrows.lens,?_⟩
     rw [hlen]
     subst q1 q6
     refine srcOf w hk' _ len cap vs (by rw [v3,hlen,← hs',ee]) (fun j u hj=>by rw [add_at,ee]; exact v4 j u hj) v2
  ·cases hro
 ·rename_i s
  simp only [Option.some.injEq,Prod.mk.injEq] at hro
  obtain ⟨rfl,rfl,rfl,rfl⟩:=hro
  obtain ⟨rfl,hsl⟩:=hr
  have hlen : (s.data.toList.map fun b=>[PV.int .u8 b.toNat]).length=s.size:=by rw [List.length_map,Array.length_toList]; rfl
  have hrep : ∀ l : List UInt8,RepL w c.d (l.map fun b=>[PV.int .u8 b.toNat]).flatten (l.map fun b=>Value.int .u8 b.toNat):=by
   intro l
   induction l with
   | nil=>rfl
   | cons b l ih =>
     refine ⟨_,_,rfl,⟨rfl,?_⟩,ih⟩
     have:=b.toNat_lt
     simp [IntKind.min,IntKind.max,IntKind.signed,IntKind.bits]
     omega
  refine ⟨byteCells s,hrep _,fun r hr=>by
   obtain ⟨b,_,rfl⟩:=List.mem_map.1 hr
   rfl,hk',fun _=>by rw [hlen]; rfl,?_,?_,?_,fun u hu=>by
    obtain ⟨_,_,rfl⟩:=List.mem_map.1 hu
    rfl⟩
  ·rw [hlen]
   have:=firstCells_string (P:=P) s w
   simpa [Builtin.firstCells] using this
  ·rw [hlen]
   have:=firstCells_string (P:=P) s w.drew
   simpa [Builtin.firstCells] using this
  ·rw [hlen,byteCells_length]
   rcases hsz with hsz | hsz
   ·have : s.size=0:=by rw [← hlen,hsz]; rfl
    rw [this]; simp
   ·rw [← hsz]; simp
 ·cases hro
theorem HGood.drop (hg : HGood E h c w) (g : Key) : HGood E ((g,none)::h) c w:=by
 have key : ∀ k e,hk k ((g,none)::h)=some e→hk k h=some e:=fun k e he=>by
  rw [hk_cons] at he
  split at he
  ·cases he
  ·exact he
 exact ⟨fun k e he=>hg.heap k e (key k e he),fun k e ad he had=>hg.fresh k e ad (key k e he) had,fun k k' e e' ad ad' he he'=>hg.apart k k' e e' ad ad' (key k e he) (key k' e' he'),hg.fz,hg.le,hg.bnd,hg.below⟩
theorem HGood.congr {h' : List (Key × Option HE)} (hg : HGood E h c w) (hh : ∀ k e,hk k h'=some e→hk k h=some e) : HGood E h' c w :=
 ⟨fun k e he=>hg.heap k e (hh k e he),fun k e ad he had=>hg.fresh k e ad (hh k e he) had,fun k k' e e' ad ad' he he'=>hg.apart k k' e e' ad ad' (hh k e he) (hh k' e' he'),hg.fz,hg.le,hg.bnd,hg.below⟩
theorem HGood.rename (hg : HGood E h c w) (hkey : ¬ c.U key) {g : Key} {e : HE} (he : hk g h=some e) (hfz : e.fz=false) {ad : Addr} (had : c.β g=some ad) {a' : Addr} (ha' : a'.block=ad.block) (hsp : a'.spot=none) {xs : List (List PV)}
 (hr : RepRows w c.d e.esz a'.block a'.off xs) (hsz : ∃ cs el fr,w.heap[ad.block]? = some (.cells cs el fr)∧a'.off+xs.length * e.esz≤cs.size) :
 HGood E ((key,some ⟨e.esz,xs,false,false⟩)::(g,none)::h) (newCtx c key (some a') e.esz) w:=by
 have hle:=newCtx_le (a:=some a') (n:=e.esz) hkey
 have hh:=hg.heap g e he
 have hgk : g ≠ key:=fun x=>by subst x; exact hkey hh.1
 have hβ : ∀ k,k ≠ key→(newCtx c key (some a') e.esz).β k=c.β k:=fun k hk=>if_neg hk
 have hβk : (newCtx c key (some a') e.esz).β key=some a':=if_pos rfl
 have hm:=Mono.refl c.Fz w
 have look : ∀ k e',hk k ((key,some ⟨e.esz,xs,false,false⟩)::(g,none)::h)=some e'→(k=key∧e'=⟨e.esz,xs,false,false⟩)∨(k ≠ key∧k ≠ g∧hk k h=some e'):=fun k e' hk'=>by
  rw [hk_cons,hk_cons] at hk'
  split at hk'
  ·rename_i h2
   exact .inl ⟨h2,(Option.some.inj hk').symm⟩
  ·rename_i h2
   split at hk'
   ·cases hk'
   ·rename_i h1
    exact .inr ⟨h2,h1,hk'⟩
 obtain ⟨_,_,h3⟩:=hh
 rw [had] at h3
 obtain ⟨b1,⟨cs,el,fr,b2,b3,b4⟩,b5,b6⟩:=h3
 refine ⟨?_,?_,?_,hg.fz,hg.le,newCtx_bnd hg.bnd,hg.below⟩
 ·intro k e' hk'
  rcases look k e' hk' with ⟨rfl,rfl⟩ | ⟨h1,h2,h3⟩
  ·refine ⟨Or.inr rfl,(if_pos rfl).symm,?_⟩
   rw [hβk]
   obtain ⟨cs',el',fr',c1,c2⟩:=hsz
   rw [b2] at c1
   obtain ⟨rfl,rfl,rfl⟩ : cs=cs'∧el=el'∧fr=fr':=by simpa using c1
   refine ⟨hsp,⟨cs,el,fr,by rw [ha']; exact b2,c2,b4⟩,by simpa using RepRows.mono _ _ rfl _ _ (c:=c.d) hm (Ctx.Le.d hle.Fz) hr,?_⟩
   rw [ha']
   rw [show (newCtx c k (some a') e.esz).Fz ad.block=c.Fz ad.block from rfl]
   simpa [hfz] using b6
  ·exact (hg.heap k e' h3).mono hm hle (fun _ _=>Iff.rfl) (fun _ _=>rfl)
 ·intro k e' ad' hk' had'
  rcases look k e' hk' with ⟨rfl,rfl⟩ | ⟨h1,h2,h3⟩
  ·rw [hβk] at had'
   obtain rfl:=Option.some.inj had'
   rw [ha']
   exact hg.fresh g e ad he had
  ·rw [hβ k h1] at had'
   exact hg.fresh k e' ad' h3 had'
 ·intro k k' e1 e2 ad1 ad2 h1 h2 h3 h4 hne
  rcases look k e1 h1 with ⟨rfl,rfl⟩ | ⟨x1,x2,x3⟩
  ·rcases look k' e2 h2 with ⟨rfl,rfl⟩ | ⟨y1,y2,y3⟩
   ·exact absurd rfl hne
   ·rw [hβk] at h3
    obtain rfl:=Option.some.inj h3
    rw [hβ k' y1] at h4
    rw [ha']
    exact hg.apart g k' e e2 ad ad2 he y3 had h4 (fun x=>y2 x.symm)
  ·rcases look k' e2 h2 with ⟨rfl,rfl⟩ | ⟨y1,y2,y3⟩
   ·rw [hβk] at h4
    obtain rfl:=Option.some.inj h4
    rw [hβ k x1] at h3
    rw [ha']
    exact hg.apart k g e1 e ad1 ad x3 he h3 had x2
   ·rw [hβ k x1] at h3
    rw [hβ k' y1] at h4
    exact hg.apart k k' e1 e2 ad1 ad2 x3 y3 h3 h4 hne
theorem app_grow {P : Program} (hP : P=E.P) (hg : HGood E h c w) (hkey : ¬ c.U key) {t tx ty e : TypeId} {inf : TypeInfo} {z : Value} (ht : P.underlying t=some (.slice e)) (hi : P.info? e=some inf) (hz : inf.zero=some z) (hzs : z.cells.size=inf.size) (hb : inf.bytes≤2048)
 {base : Option Addr} {sLen sCap : Nat} {olds news : List Value} {xs cx : List (List PV)} (hr1 : RepL w c.d xs.flatten olds) (h1 : ∀ u ∈ olds,u.oneCell'=true) (hl1 : ∀ r ∈ xs,r.length=inf.size) (hx : xs.length=sLen)
 (hold : (Builtin.firstCells inf.size sLen (.slice base sLen sCap)).run P w.drew=.ok olds.toArray w.drew) {x : Value} (hs : Src P inf.size tx x cx.length news w) (hr2 : RepL w c.d cx.flatten news) (hl2 : ∀ r ∈ cx,r.length=inf.size)
 (hgr : sCap < sLen+cx.length) (hlim : sLen+cx.length≤68719476736) (hsz : 0 < inf.size) :
 ∃ v w',(Builtin.append_ #[t,tx] ty #[.slice base sLen sCap,x]).run P w=.ok v w'∧HGood E ((key,some ⟨inf.size,xs++cx,false,false⟩)::h) (newCtx c key (some ⟨w.heap.size,0,none⟩) inf.size) w'∧Mono c.Fz w w' ∧
   RepV w' (newCtx c key (some ⟨w.heap.size,0,none⟩) inf.size) (.own key inf.size 0 (sLen+cx.length) false) v:=by
 have hbytes : (sLen+cx.length) * inf.bytes≤140737488355328:=by
  calc (sLen+cx.length) * inf.bytes≤68719476736 * 2048:=Nat.mul_le_mul hlim hb
   _=140737488355328:=by decide
 have hrun:=run_append_grow_src w t tx ty e inf z ht hi hz base sLen sCap olds hold x cx.length news hs hgr (by omega) (growslice_fits hgr hbytes)
 have hcap:=grownCap_ge w (sLen+cx.length) sCap e
 have hcap2:=grownCap_le_maxLen w (sLen+cx.length) sCap e (by unfold maxLen; omega)
 have hflat : RepL w c.d (xs++cx).flatten (olds++news):=by rw [List.flatten_append]; exact RepL.append hr1 hr2
 have hlens : ∀ r ∈ xs++cx,r.length=inf.size:=fun r hr=>(List.mem_append.1 hr).elim (hl1 r) (hl2 r)
 have hon : ∀ u ∈ olds++news,u.oneCell'=true:=fun u hu=>(List.mem_append.1 hu).elim (h1 u) (hs.one u)
 have hol : olds.length=sLen * inf.size:=by rw [hr1.length,flatten_len _ hl1,hx]
 have hnl:=hs.newsLen
 have hcsz : ((olds++news).toArray++Builtin.zeroCells z.cells (grownCap w (sLen+cx.length) sCap e - (sLen+cx.length))).size=grownCap w (sLen+cx.length) sCap e * inf.size:=by
  rw [Array.size_append,size_zeroCells,hzs,Nat.sub_mul]
  simp only [List.size_toArray,List.length_append,hol,hnl]
  have : (sLen+cx.length) * inf.size≤grownCap w (sLen+cx.length) sCap e * inf.size:=Nat.mul_le_mul_right _ hcap
  rw [Nat.add_mul] at this ⊢
  omega
 obtain ⟨g1,g2⟩:=hg.extend hkey (cs:=(olds++news).toArray++Builtin.zeroCells z.cells (grownCap w (sLen+cx.length) sCap e - (sLen+cx.length))) (el:=e) (n:=inf.size) (xs:=xs++cx) (vs:=olds++news) false (by simpa using hflat) hon hlens
  (fun j v hj=>by
   have hlt : j < (olds++news).length:=(List.getElem?_eq_some_iff.1 hj).1
   rw [Array.getElem?_append_left (by simpa using hlt)]
   simpa using hj)
  (by rw [hcsz,List.length_append,hx]; exact Nat.mul_le_mul_right _ hcap) w.drew (.inr rfl)
 refine ⟨_,_,hrun,g1,g2,?_⟩
 refine ⟨Or.inr rfl,(if_pos rfl).symm,hsz,_,_,rfl,hcap,by unfold maxLen at hcap2; omega,by unfold LIM; omega,by simp,?_⟩
 rw [show (newCtx c key (some ⟨w.heap.size,0,none⟩) inf.size).β key=some ⟨w.heap.size,0,none⟩ from if_pos rfl]
 refine .inr ⟨by simp,_,e,(0,0),heap_new w w.drew rfl _,?_⟩
 simp only [Nat.zero_add]
 rw [hcsz]
 exact Nat.le_refl _
theorem app_nil (hg : HGood E h c w) (hkey : ¬ c.U key) {t u ty e : TypeId} {inf : TypeInfo} {z : Value} (hte : E.P.underlying t=some (.slice e)) (hue : (∃ e',E.P.underlying u=some (.slice e'))∨E.P.underlying u=some .string) (hinf : E.P.info? e=some inf) (c3 : inf.zero=some z) (c4 : z.cells.size=inf.size) (c1 : inf.bytes≤2048)
 {vs vx : Value} {x : PV} (hr : RepV w c (.vec inf.size true []) vs) (hrx : RepV w c x vx) {po : Prop} {xe : Nat} {rd : List Nat} {cx : List (List PV)} (hro : rowsOf (fun k=>hk k h) x=some (po,xe,rd,cx)) (p0 : po) (p1 : cx=[]∨xe=inf.size) (p4 : 0 < inf.size) (p5 : cx.length≤68719476736) :
 ∃ v w' a,(Builtin.append_ #[t,u] ty #[vs,vx]).run E.P w=.ok v w'∧HGood E ((key,some ⟨inf.size,cx,false,false⟩)::h) (newCtx c key a inf.size) w'∧Mono c.Fz w w'∧RepV w' (newCtx c key a inf.size) (.own key inf.size 0 cx.length false) v:=by
 obtain ⟨a,cap,q1,q2,q3,q4,q5,q6⟩:=hr
 have hcap : cap=0:=q5 rfl
 subst hcap
 simp only [List.length_nil] at q1
 obtain ⟨news,n1,n2,n3⟩:=slice_src (P:=E.P) hue hg hrx hro p0 p1
 have n2' : ∀ r ∈ cx,r.length=inf.size:=by
  rcases p1 with p1 | p1
  ·rw [p1]; simp
  ·rw [← p1]; exact n2
 by_cases hcx : cx=[]
 ·subst hcx
  have hnews : news=[]:=by have:=n3.newsLen; simpa using this
  subst hnews
  have r1 : (Builtin.append_ #[t,u] ty #[vs,vx]).run E.P w=.ok (.slice a 0 0) w:=by
   rw [q1]
   have k1:=n3.len
   have k2:=n3.cells
   simp only [List.length_nil] at k1 k2
   cases a with
   | none=>rcases hue with ⟨e',hue⟩ | hue <;> simp [Builtin.append_,run_underlying hte,run_underlying hue,sizeOf,typeInfo,hinf,k1,k2]
   | some ad=>rcases hue with ⟨e',hue⟩ | hue <;> simp [Builtin.append_,run_underlying hte,run_underlying hue,sizeOf,typeInfo,hinf,k1,k2,storeCells]
  have hle:=newCtx_le (c:=c) (key:=key) (a:=none) (n:=inf.size) hkey
  have hβ : ∀ k,k ≠ key→(newCtx c key none inf.size).β k=c.β k:=fun k hk=>if_neg hk
  have hβk : (newCtx c key none inf.size).β key=none:=if_pos rfl
  have look : ∀ k e',hk k ((key,some (⟨inf.size,[],false,false⟩ : HE))::h)=some e'→(k=key∧e'=⟨inf.size,[],false,false⟩)∨(k ≠ key∧hk k h=some e'):=fun k e' hk'=>by
   simp only [hk_cons] at hk'
   split at hk'
   ·rename_i h2
    exact .inl ⟨h2,(Option.some.inj hk').symm⟩
   ·rename_i h2
    exact .inr ⟨h2,hk'⟩
  refine ⟨_,w,none,r1,?_,Mono.refl _ _,?_⟩
  ·refine ⟨fun k e' hk'=>?_,fun k e' ad' hk' had'=>?_,fun k k' e1 e2 ad1 ad2 x1 x2 x3 x4 hne=>?_,hg.fz,hg.le,newCtx_bnd hg.bnd,hg.below⟩
   ·rcases look k e' hk' with ⟨rfl,rfl⟩ | ⟨x1,x3⟩
    ·refine ⟨Or.inr rfl,(if_pos rfl).symm,?_⟩
     rw [hβk]
     exact ⟨rfl,p4⟩
    ·exact (hg.heap k e' x3).mono (Mono.refl _ _) hle (fun _ _=>Iff.rfl) (fun _ _=>rfl)
   ·rcases look k e' hk' with ⟨rfl,rfl⟩ | ⟨x1,x3⟩
    ·rw [hβk] at had'; cases had'
    ·rw [hβ k x1] at had'
     exact hg.fresh k e' ad' x3 had'
   ·rcases look k e1 x1 with ⟨rfl,rfl⟩ | ⟨y1,y3⟩
    ·rw [hβk] at x3; cases x3
    ·rcases look k' e2 x2 with ⟨rfl,rfl⟩ | ⟨z1,z3⟩
     ·rw [hβk] at x4; cases x4
     ·rw [hβ k y1] at x3
      rw [hβ k' z1] at x4
      exact hg.apart k k' e1 e2 ad1 ad2 y3 z3 x3 x4 hne
  ·refine ⟨Or.inr rfl,(if_pos rfl).symm,p4,a,0,by simp,by simp,by simp,by simp [LIM],by simp,?_⟩
   rw [show (newCtx c key none inf.size).β key=none from if_pos rfl]
   simp
 ·have hc1 : 0 < cx.length:=by cases cx with | nil=>exact absurd rfl hcx | cons _ _=>simp
  have o4 : (Builtin.firstCells inf.size 0 (.slice a 0 0)).run E.P w.drew=.ok ([] : List Value).toArray w.drew:=by
   cases a with
   | none=>exact run_firstCells_none w.drew _ 0 0 0
   | some ad=>exact run_firstCells_some (P:=E.P) w.drew inf.size 0 ad 0 0 [] (by simp) (by simp)
  obtain ⟨v,w',r1,r2,r3,r4⟩:=app_grow rfl hg hkey (ty:=ty) hte hinf c3 c4 c1 (xs:=[]) (olds:=[]) rfl (by simp) (by simp) rfl o4 n3 n1 n2' (by omega) (by omega) p4
  simp only [List.length_nil,Nat.zero_add,List.nil_append] at r1 r2 r4
  exact ⟨v,w',_,by rw [q1]; exact r1,r2,r3,r4⟩
theorem does_app_core (cl : Call) (ho : o.op=.call cl) (hcl : cl.callee=.builtin .append) {t u e : TypeId} {s x : Operand} {ms mx : MO} {inf : TypeInfo} (ea : cl.args=#[s,x]) (et : cl.argTypes=#[t,u]) (hte : E.P.underlying t=some (.slice e)) (hue : (∃ e',E.P.underlying u=some (.slice e'))∨E.P.underlying u=some .string)
 (hms : toO E.P E.nt t s=some ms) (hmx : toO E.P E.nt u x=some mx) (hinf : E.P.info? e=some inf) (hc : (decide (inf.bytes≤2048)&&decide (0 < inf.bytes)&&zeroFits inf)=true)
 (hg : HGood E h c w) (hkey : ¬ c.U key) (hop : Opnd E c w ev get (.app ms mx inf.size))
 (hs : opSem key get (fun k=>hk k h) (.app ms mx inf.size)=some out) (hp : out.pre) : Does E h c w ev o key out:=by
 simp only [Bool.and_eq_true,decide_eq_true_eq] at hc
 obtain ⟨⟨c1,c2⟩,c34⟩:=hc
 obtain ⟨z,c3,c4⟩ : ∃ z,inf.zero=some z∧z.cells.size=inf.size:=by
  unfold zeroFits at c34
  split at c34
  ·rename_i z hz; exact ⟨z,hz,by simpa using c34⟩
  ·cases c34
 have hr:=hop _ s ms hms (by simp [MI.ops])
 have hrx:=hop _ x mx hmx (by simp [MI.ops])
 have hrun : ∀ {v : Value} {w' : World},(Builtin.append_ #[t,u] o.type #[ev s,ev x]).run E.P w=.ok v w'→(execOp ev o).run E.P w=.ok (.value v) w':=fun {v w'} q=>by
  simp [execOp,ho,resolve,hcl,invoke,builtin,ea,et,q]
 simp only [opSem] at hs
 split at hs
 ·rename_i po xe rd cx hro
  split at hs
  ·rename_i esz' full xs hgs
   split at hs
   ·
     rename_i hnil
     simp only [nilV,Bool.and_eq_true,List.isEmpty_iff,beq_iff_eq] at hnil
     obtain ⟨⟨rfl,rfl⟩,rfl⟩:=hnil
     simp only [Option.some.injEq] at hs
     subst hs
     obtain ⟨p0,p1,p4,p5⟩:=hp
     rw [hgs] at hr
     obtain ⟨v,w',a,r1,r2,r3,r4⟩:=app_nil hg hkey (ty:=o.type) hte hue hinf c3 c4 c1 hr hrx hro p0 p1 p4 p5
     exact ⟨_,v,w',_,hrun r1,.inl rfl,r2,r4,newCtx_le hkey,r3,fun _ hk=>hk⟩
   split at hs
   ·
     rename_i hemp
     cases hs
     have hcx : cx=[]:=by simpa using hemp
     subst hcx
     obtain ⟨news,n1,n2,n3⟩:=slice_src (P:=E.P) (size:=inf.size) hue hg hrx hro hp (.inl rfl)
     have hnews : news=[]:=n1
     subst hnews
     have hr':=hr
     rw [hgs] at hr'
     obtain ⟨a,cap,q1,q2,q3,q4,q5,q6⟩:=hr'
     have r1 : (Builtin.append_ #[t,u] o.type #[ev s,ev x]).run E.P w=.ok (.slice a xs.length cap) w:=by
      rw [q1]
      have k1:=n3.len
      have k2:=n3.cells
      simp only [List.length_nil] at k1 k2
      cases a with
      | none=>rcases hue with ⟨e',hue⟩ | hue <;> simp [Builtin.append_,run_underlying hte,run_underlying hue,sizeOf,typeInfo,hinf,k1,k2,q2]
      | some ad=>rcases hue with ⟨e',hue⟩ | hue <;> simp [Builtin.append_,run_underlying hte,run_underlying hue,sizeOf,typeInfo,hinf,k1,k2,q2,storeCells]
     exact Does.same (v:=.slice a xs.length cap) (hrun r1) rfl hg (by rw [← q1,← hgs]; exact hr)
   split at hs
   ·rename_i hne hfull
    simp only [Option.some.injEq] at hs
    subst hs
    obtain ⟨p0,p1,p2,p3,p4,p5⟩:=hp
    rw [hgs] at hr
    obtain ⟨a,cap,q1,q2,q3,q4,q5,q6⟩:=hr
    have hcap : cap=xs.length:=q5 hfull
    subst hcap
    obtain ⟨news,n1,n2,n3⟩:=slice_src (P:=E.P) hue hg hrx hro p0 (.inr p2)
    obtain ⟨olds,o1,o2,o3,o4⟩ : ∃ olds : List Value,RepL w c.d xs.flatten olds∧(∀ u ∈ olds,u.oneCell'=true)∧(∀ r ∈ xs,r.length=inf.size)∧(Builtin.firstCells inf.size xs.length (.slice a xs.length xs.length)).run E.P w.drew=.ok olds.toArray w.drew:=by
     rcases q6 with q6 | ⟨ad,q6,q7,q8,q9⟩
     ·subst q6
      refine ⟨[],rfl,by simp,by simp,?_⟩
      cases a with
      | none=>exact run_firstCells_none w.drew _ 0 0 0
      | some ad=>exact run_firstCells_some (P:=E.P) w.drew inf.size 0 ad 0 0 [] (by simp) (by simp)
     ·by_cases hxs : xs=[]
      ·subst hxs
       refine ⟨[],rfl,by simp,by simp,?_⟩
       subst q6
       exact run_firstCells_some (P:=E.P) w.drew inf.size 0 ad 0 0 [] (by simp) (by simp)
      ·have he:=p3.resolve_left hxs
       obtain ⟨vs,v1,v2,v3,v4⟩:=q9.vals
       refine ⟨vs,v1,v2,by rw [← he]; exact q9.lens,?_⟩
       subst q6
       exact run_firstCells_some (P:=E.P) w.drew inf.size xs.length ad xs.length xs.length vs (by rw [v3,he]) (fun j u hj=>by rw [addr_of q7,add_at]; simpa using v4 j u hj)
    obtain ⟨v,w',r1,r2,r3,r4⟩:=app_grow rfl hg hkey (ty:=o.type) hte hinf c3 c4 c1 o1 o2 o3 rfl o4 n3 n1 (by rw [← p2]; exact n2) (by omega) p5 p4
    exact ⟨_,v,w',_,hrun (by rw [q1]; exact r1),.inl rfl,r2,r4,newCtx_le hkey,r3,fun _ hk=>hk⟩
   ·cases hs
  ·rename_i g esz' off len full hgs
   split at hs
   ·rename_i e0 he0
    split at hs
    ·cases hs
    ·rename_i hf
     simp only [Bool.or_eq_true,bne_iff_ne,ne_eq,not_or,Bool.not_eq_true,Decidable.not_not] at hf
     obtain ⟨fb,f2⟩:=hf
     split at hs
     ·rename_i hfz
      split at hs
      ·rename_i hfull
       simp only [Bool.and_eq_true,Bool.not_eq_true',List.isEmpty_eq_false_iff] at hfull
       obtain ⟨hfl,hcx⟩:=hfull
       simp only [Option.some.injEq] at hs
       subst hs
       obtain ⟨p0,p1',p2,p3⟩:=hp
       have p1 : cx=[]∨xe=inf.size:=.inr p1'
       rw [hgs] at hr
       obtain ⟨g1,g2,g3,a,cap,q1,q2,q3,q4,q5,q6⟩:=hr
       have hcap : cap=len:=q5 hfl
       have hh:=hg.heap g e0 he0
       have hes : e0.esz=inf.size:=by rw [hh.2.1,← g2,f2]
       have hgk : g ≠ key:=fun x=>by subst x; exact hkey g1
       obtain ⟨news,n1,n2,n3⟩:=slice_src (P:=E.P) hue hg hrx hro p0 p1
       have n2' : ∀ r ∈ cx,r.length=inf.size:=by
        rcases p1 with p1 | p1
        ·rw [p1]; simp
        ·rw [← p1]; exact n2
       have hlenx : ((e0.xs.drop off).take len).length=len:=by simp; omega
       obtain ⟨olds,o1,o2,o3,o4,o5⟩ : ∃ olds : List Value,RepL w c.d ((e0.xs.drop off).take len).flatten olds∧(∀ u ∈ olds,u.oneCell'=true)∧(∀ r ∈ (e0.xs.drop off).take len,r.length=inf.size)∧(Builtin.firstCells inf.size len (.slice a len cap)).run E.P w.drew=.ok olds.toArray w.drew∧True:=by
        by_cases h0 : len=0
        ·subst h0
         refine ⟨[],by simp [RepL],by simp,by simp,?_,trivial⟩
         cases a with
         | none=>exact run_firstCells_none w.drew _ 0 0 cap
         | some ad=>exact run_firstCells_some (P:=E.P) w.drew inf.size 0 ad 0 cap [] (by simp) (by simp)
        ·obtain ⟨ad,b1,b2,b3,b4,b5⟩:=hh.block (by omega)
         rw [b1] at q6
         rcases q6 with q6 | ⟨q6,_⟩
         ·omega
         ·have hrows : RepRows w c.d e0.esz ad.block (ad.off+off * e0.esz) ((e0.xs.drop off).take len):=RepRows.take _ (RepRows.drop _ (by simpa [fb] using b4))
          obtain ⟨vs,v1,v2,v3,v4⟩:=hrows.vals
          refine ⟨vs,v1,v2,by rw [← hes]; exact hrows.lens,?_,trivial⟩
          subst q6
          exact run_firstCells_some (P:=E.P) w.drew inf.size len _ len cap vs (by rw [v3,hlenx,hes]) (fun j u hj=>by rw [add_at,f2,← hes]; simpa using v4 j u hj)
       have hcl : 0 < cx.length:=List.length_pos_iff.2 hcx
       obtain ⟨v,w',r1,r2,r3,r4⟩:=app_grow rfl hg hkey (ty:=o.type) hte hinf c3 c4 c1 o1 o2 o3 hlenx o4 n3 n1 n2' (by omega) p3 (by rw [← f2]; exact g3)
       exact ⟨_,v,w',_,hrun (by rw [q1]; exact r1),.inl rfl,r2,r4,newCtx_le hkey,r3,fun _ hk=>hk⟩
      ·cases hs
     rename_i hfz
     have f1 : e0.fz=false:=by simpa using hfz
     simp only [Option.some.injEq] at hs
     subst hs
     obtain ⟨p0,p1,p2,p3⟩:=hp
     rw [hgs] at hr
     obtain ⟨g1,g2,g3,a,cap,q1,q2,q3,q4,q5,q6⟩:=hr
     have hh:=hg.heap g e0 he0
     have hes : e0.esz=inf.size:=by rw [hh.2.1,← g2,f2]
     have hgk : g ≠ key:=fun x=>by subst x; exact hkey g1
     obtain ⟨news,n1,n2,n3⟩:=slice_src (P:=E.P) hue hg hrx hro p0 p1
     have n2' : ∀ r ∈ cx,r.length=inf.size:=by
      rcases p1 with p1 | p1
      ·rw [p1]; simp
      ·rw [← p1]; exact n2
     have hlenx : ((e0.xs.drop off).take len).length=len:=by simp; omega
     obtain ⟨olds,o1,o2,o3,o4,o5⟩ : ∃ olds : List Value,RepL w c.d ((e0.xs.drop off).take len).flatten olds∧(∀ u ∈ olds,u.oneCell'=true)∧(∀ r ∈ (e0.xs.drop off).take len,r.length=inf.size)∧(Builtin.firstCells inf.size len (.slice a len cap)).run E.P w.drew=.ok olds.toArray w.drew∧True:=by
      by_cases h0 : len=0
      ·subst h0
       refine ⟨[],by simp [RepL],by simp,by simp,?_,trivial⟩
       cases a with
       | none=>exact run_firstCells_none w.drew _ 0 0 cap
       | some ad=>exact run_firstCells_some (P:=E.P) w.drew inf.size 0 ad 0 cap [] (by simp) (by simp)
      ·obtain ⟨ad,b1,b2,b3,b4,b5⟩:=hh.block (by omega)
       rw [b1] at q6
       rcases q6 with q6 | ⟨q6,_⟩
       ·omega
       ·have hrows : RepRows w c.d e0.esz ad.block (ad.off+off * e0.esz) ((e0.xs.drop off).take len):=RepRows.take _ (RepRows.drop _ (by simpa [fb] using b4))
        obtain ⟨vs,v1,v2,v3,v4⟩:=hrows.vals
        refine ⟨vs,v1,v2,by rw [← hes]; exact hrows.lens,?_,trivial⟩
        subst q6
        exact run_firstCells_some (P:=E.P) w.drew inf.size len _ len cap vs (by rw [v3,hlenx,hes]) (fun j u hj=>by rw [add_at,f2,← hes]; simpa using v4 j u hj)
     by_cases hroom : len+cx.length≤cap
     ·
       by_cases hc0 : cap=0
       ·
         have hl0 : len=0:=by omega
         have hx0 : cx.length=0:=by omega
         have hcx : cx=[]:=List.eq_nil_of_length_eq_zero hx0
         subst hcx hl0 hc0
         have hnews : news=[]:=by have:=n3.newsLen; simpa using this
         subst hnews
         have r1 : (Builtin.append_ #[t,u] o.type #[ev s,ev x]).run E.P w=.ok (.slice a 0 0) w:=by
          rw [q1]
          have k1:=n3.len
          have k2:=n3.cells
          simp only [List.length_nil] at k1 k2
          cases a with
          | none=>rcases hue with ⟨e',hue⟩ | hue <;> simp [Builtin.append_,run_underlying hte,run_underlying hue,sizeOf,typeInfo,hinf,k1,k2]
          | some ad=>rcases hue with ⟨e',hue⟩ | hue <;> simp [Builtin.append_,run_underlying hte,run_underlying hue,sizeOf,typeInfo,hinf,k1,k2,storeCells]
         refine ⟨_,_,w,newCtx c key none inf.size,hrun r1,.inl rfl,?_,?_,newCtx_le hkey,Mono.refl _ _,fun _ hk=>hk⟩
         ·have hle:=newCtx_le (c:=c) (key:=key) (a:=none) (n:=inf.size) hkey
          have hβ : ∀ k,k ≠ key→(newCtx c key none inf.size).β k=c.β k:=fun k hk=>if_neg hk
          have hβk : (newCtx c key none inf.size).β key=none:=if_pos rfl
          have look : ∀ k e',hk k ([(key,some (⟨inf.size,(e0.xs.drop off).take 0++[],false,false⟩ : HE)),(g,none)]++h)=some e'→(k=key∧e'=⟨inf.size,(e0.xs.drop off).take 0++[],false,false⟩)∨(k ≠ key∧k ≠ g∧hk k h=some e'):=fun k e' hk'=>by
           simp only [List.cons_append,List.nil_append,hk_cons] at hk'
           split at hk'
           ·rename_i h2
            exact .inl ⟨h2,by simpa using (Option.some.inj hk').symm⟩
           ·rename_i h2
            split at hk'
            ·cases hk'
            ·rename_i h1
             exact .inr ⟨h2,h1,hk'⟩
          refine ⟨fun k e' hk'=>?_,fun k e' ad' hk' had'=>?_,fun k k' e1 e2 ad1 ad2 x1 x2 x3 x4 hne=>?_,hg.fz,hg.le,newCtx_bnd hg.bnd,hg.below⟩
          ·rcases look k e' hk' with ⟨rfl,rfl⟩ | ⟨x1,x2,x3⟩
           ·refine ⟨Or.inr rfl,(if_pos rfl).symm,?_⟩
            rw [hβk]
            exact ⟨by simp,by rw [← f2]; exact g3⟩
           ·exact (hg.heap k e' x3).mono (Mono.refl _ _) hle (fun _ _=>Iff.rfl) (fun _ _=>rfl)
          ·rcases look k e' hk' with ⟨rfl,rfl⟩ | ⟨x1,x2,x3⟩
           ·rw [hβk] at had'; cases had'
           ·rw [hβ k x1] at had'
            exact hg.fresh k e' ad' x3 had'
          ·rcases look k e1 x1 with ⟨rfl,rfl⟩ | ⟨y1,y2,y3⟩
           ·rw [hβk] at x3; cases x3
           ·rcases look k' e2 x2 with ⟨rfl,rfl⟩ | ⟨z1,z2,z3⟩
            ·rw [hβk] at x4; cases x4
            ·rw [hβ k y1] at x3
             rw [hβ k' z1] at x4
             exact hg.apart k k' e1 e2 ad1 ad2 y3 z3 x3 x4 hne
         ·refine ⟨Or.inr rfl,(if_pos rfl).symm,by rw [← f2]; exact g3,a,0,by simp,by simp,by simp,by simp [LIM],by simp,?_⟩
          rw [show (newCtx c key none inf.size).β key=none from if_pos rfl]
          simp
       ·cases hb : c.β g with
        | none=>rw [hb] at q6; omega
        | some ad =>
          rw [hb] at q6
          rcases q6 with q6 | ⟨q6,cs,el,fr,q7,q8⟩
          ·omega
          ·obtain ⟨_,_,h3⟩:=hh
           rw [hb] at h3
           obtain ⟨b1,⟨cs',el',fr',b2,b3,b4⟩,b5,b6⟩:=h3
           rw [q7] at b2
           obtain ⟨rfl,rfl,rfl⟩ : cs=cs'∧el=el'∧fr=fr':=by simpa using b2
           have hnF : ¬ c.Fz ad.block:=fun hf=>by rw [b6.1 hf] at f1; cases f1
           have hnl:=n3.newsLen
           have hcells : ∀ j,j < news.length→(w.cell? ⟨ad.block,ad.off+off * inf.size+len * inf.size+j,none⟩).isSome=true:=fun j hj=>by
            have h5 : (off+(len+cx.length)) * inf.size≤(off+cap) * inf.size:=Nat.mul_le_mul_right _ (by omega)
            rw [f2] at q8
            have : ad.off+off * inf.size+len * inf.size+j < cs.size:=by
             rw [Nat.add_mul,Nat.add_mul] at h5
             omega
            simp [World.cell?,q7,this]
           have hfroz : ∀ j,j < news.length→w.frozen? ⟨ad.block,ad.off+off * inf.size+len * inf.size+j,none⟩=false:=fun j hj=>by
            have h5 : (off+(len+cx.length)) * inf.size≤(off+cap) * inf.size:=Nat.mul_le_mul_right _ (by omega)
            rw [f2] at q8
            have h6 : ad.off+off * inf.size+len * inf.size+j < cs.size:=by
             rw [Nat.add_mul,Nat.add_mul] at h5
             omega
            have:=b4 _ h6
            simp only [World.frozen?,q7]
            simpa using this
           have hrun1:=run_append_room_src w t u o.type e inf hte hinf ad.block (ad.off+off * inf.size) len cap (ev x) cx.length news n3 hroom hcells hfroz
           rw [q6,f2] at q1
           have hm : Mono c.Fz w (w.setCells ad.block (ad.off+off * inf.size+len * inf.size) news):=mono_setCells hnF _ _
           have hg1 : HGood E ((g,some ⟨e0.esz,[],false,false⟩)::h) c (w.setCells ad.block (ad.off+off * inf.size+len * inf.size) news):=by
            have look : ∀ k e',hk k ((g,some (⟨e0.esz,[],false,false⟩ : HE))::h)=some e'→(k=g∧e'=⟨e0.esz,[],false,false⟩)∨(k ≠ g∧hk k h=some e'):=fun k e' hk'=>by
             rw [hk_cons] at hk'
             split at hk'
             ·rename_i h2
              exact .inl ⟨h2,(Option.some.inj hk').symm⟩
             ·rename_i h2
              exact .inr ⟨h2,hk'⟩
            obtain ⟨cs2,z1,z2⟩:=heap_setCells_same ad.block news (ad.off+off * inf.size+len * inf.size) w cs el fr q7
            refine ⟨fun k e' hk'=>?_,fun k e' ad' hk' had'=>?_,fun k k' e1 e2 ad1 ad2 x1 x2 x3 x4 hne=>?_,fun b hb'=>?_,hg.le,hg.bnd,below_setCells' (hg.fresh g e0 ad he0 hb).1 _ _ hg.below⟩
            ·rcases look k e' hk' with ⟨rfl,rfl⟩ | ⟨x1,x3⟩
             ·refine ⟨g1,by simpa using (hg.heap _ e0 he0).2.1,?_⟩
              rw [hb]
              exact ⟨b1,⟨cs2,el,fr,z1,by simp; omega,fun o' ho'=>b4 o' (by omega)⟩,trivial,by simpa [f1] using b6⟩
             ·exact (hg.heap k e' x3).mono hm (Ctx.Le.refl c) (fun _ _=>Iff.rfl) (fun ad' had'=>heap_setCells_ne w _ _ _ (hg.apart k g e' e0 ad' ad x3 he0 had' hb x1))
            ·rw [size_setCells']
             rcases look k e' hk' with ⟨rfl,rfl⟩ | ⟨x1,x3⟩
             ·exact hg.fresh _ e0 ad' he0 had'
             ·exact hg.fresh k e' ad' x3 had'
            ·rcases look k e1 x1 with ⟨rfl,rfl⟩ | ⟨y1,y3⟩
             ·rcases look k' e2 x2 with ⟨rfl,rfl⟩ | ⟨z1,z3⟩
              ·exact absurd rfl hne
              ·exact hg.apart _ k' e0 e2 ad1 ad2 he0 z3 x3 x4 hne
             ·rcases look k' e2 x2 with ⟨rfl,rfl⟩ | ⟨z1,z3⟩
              ·exact hg.apart k _ e1 e0 ad1 ad2 y3 he0 x3 x4 hne
              ·exact hg.apart k k' e1 e2 ad1 ad2 y3 z3 x3 x4 hne
            ·rw [size_setCells']; exact hg.fz b hb'
           obtain ⟨cs2,z1,z2⟩:=heap_setCells_same ad.block news (ad.off+off * inf.size+len * inf.size) w cs el fr q7
           have holdcells : RepRows (w.setCells ad.block (ad.off+off * inf.size+len * inf.size) news) c.d inf.size ad.block (ad.off+off * inf.size) ((e0.xs.drop off).take len):=by
            have hrows : RepRows w c.d e0.esz ad.block (ad.off+off * e0.esz) ((e0.xs.drop off).take len):=RepRows.take _ (RepRows.drop _ (by simpa [fb] using b5))
            rw [hes] at hrows
            exact RepRows.mono_cells (c:=c.d) hm (Ctx.Le.refl c.d) _ _ _ _ (fun j j1 j2=>World.cell?_setCells_out _ _ _ _ _ (fun _ _=>.inl (by rw [hlenx] at j2; exact j2))) hrows
           have hnewcells : RepRows (w.setCells ad.block (ad.off+off * inf.size+len * inf.size) news) c.d inf.size ad.block (ad.off+off * inf.size+((e0.xs.drop off).take len).length * inf.size) cx:=by
            refine RepRows.of_list (RepL.mono _ _ (c:=c.d) hm (Ctx.Le.refl c.d) n1) n3.one n2' (fun j v hj=>?_)
            have hlt : j < news.length:=(List.getElem?_eq_some_iff.1 hj).1
            rw [hlenx,World.cell?_setCells_in _ _ _ _ hcells j hlt]
            rw [List.getElem?_eq_getElem hlt] at hj
            exact hj
           have hall:=RepRows.append holdcells hnewcells
           have hfin:=hg1.rename hkey (g:=g) (e:=⟨e0.esz,[],false,false⟩) (by simp [hk_cons]) rfl hb (a':=⟨ad.block,ad.off+off * inf.size,none⟩) rfl rfl (xs:=(e0.xs.drop off).take len++cx) (by rw [show (HE.mk e0.esz [] false false).esz=inf.size from hes]; exact hall)
            ⟨cs2,el,fr,z1,by
             rw [show (HE.mk e0.esz [] false false).esz=inf.size from hes,List.length_append,hlenx,z2]
             have h5 : (off+(len+cx.length)) * inf.size≤(off+cap) * inf.size:=Nat.mul_le_mul_right _ (by omega)
             rw [f2] at q8
             rw [Nat.add_mul] at h5
             simp only
             omega⟩
           rw [show (HE.mk e0.esz [] false false).esz=inf.size from hes] at hfin
           refine ⟨_,_,_,newCtx c key (some ⟨ad.block,ad.off+off * inf.size,none⟩) inf.size,hrun (by rw [q1]; exact hrun1),.inl rfl,hfin.congr (fun k e' hk'=>?_),?_,newCtx_le hkey,hm,fun _ hk=>hk⟩
           ·simp only [List.cons_append,List.nil_append,hk_cons] at hk' ⊢
            split at hk'
            ·rename_i h1
             rw [if_pos h1]; exact hk'
            ·rename_i h1
             rw [if_neg h1]
             split at hk'
             ·cases hk'
             ·rename_i h2
              rw [if_neg h2,if_neg h2]; exact hk'
           ·refine ⟨Or.inr rfl,(if_pos rfl).symm,by rw [← f2]; exact g3,_,_,rfl,hroom,q3,by unfold LIM; omega,by simp,?_⟩
            rw [show (newCtx c key (some ⟨ad.block,ad.off+off * inf.size,none⟩) inf.size).β key=some ⟨ad.block,ad.off+off * inf.size,none⟩ from if_pos rfl]
            refine .inr ⟨by simp,cs2,el,fr,z1,?_⟩
            rw [z2]
            rw [f2,Nat.add_mul] at q8
            simp only [Nat.zero_add]
            omega
     ·
       obtain ⟨v,w',r1,r2,r3,r4⟩:=app_grow rfl hg hkey (ty:=o.type) hte hinf c3 c4 c1 o1 o2 o3 hlenx o4 n3 n1 n2' (by omega) p3 (by rw [← f2]; exact g3)
       refine ⟨_,v,w',_,hrun (by rw [q1]; exact r1),.inl rfl,(r2.drop g).congr (fun k e' hk'=>?_),r4,newCtx_le hkey,r3,fun _ hk=>hk⟩
       have hne : key ≠ g:=fun e=>hkey (e ▸ (hg.heap g e0 he0).1)
       simp only [List.cons_append,List.nil_append,hk_cons] at hk' ⊢
       split at hk'
       ·rename_i h1
        rw [h1,if_neg hne,if_pos rfl]; exact hk'
       ·rename_i h1
        rw [if_neg h1]; exact hk'
   ·cases hs
  ·cases hs
 ·cases hs
theorem does_appz (cl : Call) (ho : o.op=.call cl) (hcl' : cl.callee=.builtin .append) {t u e : TypeId} {s x : Operand} {ms mx : MO} {inf : TypeInfo} {z : List PV} {k0 : IntKind} (ea : cl.args=#[s,x]) (et : cl.argTypes=#[t,u]) (hte : E.P.underlying t=some (.slice e)) (hue : E.P.underlying u=some (.int k0))
 (hms : toO E.P E.nt t s=some ms) (hmx : toO E.P E.nt u x=some mx) (hz : zeroPV E.P e=some z) (hinf : E.P.info? e=some inf) (hc : inf.bytes≤2048)
 (hg : HGood E h c w) (hkey : ¬ c.U key) (hop : Opnd E c w ev get (.appz ms mx inf.size z))
 (hs : opSem key get (fun k=>hk k h) (.appz ms mx inf.size z)=some out) (hp : out.pre) : Does E h c w ev o key out:=by
 have hr:=hop _ s ms hms (by simp [MI.ops])
 have hrx:=hop _ x mx hmx (by simp [MI.ops])
 simp only [opSem] at hs
 split at hs
 ·rename_i esz' kx k hgs hgx
  cases hs
  rw [hgs] at hr
  rw [hgx] at hrx
  obtain ⟨p1,p2,p3,p4⟩:=hp
  obtain ⟨a,cap,q1,q2,q3,q4,q5,q6⟩:=hr
  have hcap : cap=0:=q5 rfl
  subst hcap
  obtain ⟨inf',zv,i1,i2,i3,i4,i5⟩:=zeroPV_ok hz
  rw [hinf] at i1
  obtain rfl:=Option.some.inj i1
  obtain ⟨r1,r2⟩:=fitsL_rep (w:=w) (c:=c.d) (fitsL_0 (fun _=>none) i3)
  have i5' : (reify0L (fun _=>none) z).length=inf.size:=by rw [reify0L_len]; exact i5
  have hzs : zv.cells.size=inf.size:=by rw [← i5']; simpa using RepL.length r1
  have hkn : (k.toNat : Int)=k:=Int.toNat_of_nonneg (by omega)
  have hwrap : IntKind.i64.wrap k=k:=by rw [IntKind.wrap_i64]; omega
  have hn1 : ¬ k < 0:=by omega
  have hn2 : ¬ (281474976710656 < k * (inf.bytes : Int)):=by
   have : k * (inf.bytes : Int)≤34359738368 * 2048:=Int.mul_le_mul p4 (by omega) (by omega) (by omega)
   omega
  have hn3 : ¬ (k.toNat≤0):=by omega
  have hk0 : k.toNat ≠ 0:=by omega
  have hn4 : ¬ (9223372036854775807 < ((k.toNat : Nat) : Int)):=by omega
  have hn5 : Builtin.nextslicecap k.toNat 0=k.toNat:=by unfold Builtin.nextslicecap; rw [if_pos (by omega)]
  have hn6 : ¬ (281474976710656 < k.toNat * inf.bytes):=by
   have : k.toNat * inf.bytes≤34359738368 * 2048:=Nat.mul_le_mul (by omega) hc
   omega
  have hsz0 : k.toNat * inf.size ≠ 0:=Nat.mul_ne_zero hk0 (by omega)
  have hzc : ∀ m,(Builtin.zeroCells zv.cells m).toList=(List.replicate m zv.cells.toList).flatten:=fun m=>range_flat zv.cells m
  have hcap2:=grownCap_ge w k.toNat 0 e
  have hcap3:=grownCap_le_maxLen w k.toNat 0 e (by unfold maxLen; omega)
  have hrun : (Builtin.append_ #[t,u] o.type #[.slice a 0 0,.int kx k]).run E.P w=.ok (.slice (some ⟨w.heap.size,0,none⟩) k.toNat (grownCap w k.toNat 0 e))
   (w.drew.alloc (.cells (#[]++Builtin.zeroCells zv.cells k.toNat++Builtin.zeroCells zv.cells (grownCap w k.toNat 0 e - k.toNat)) e)):=by
   have hold : (Builtin.firstCells inf.size 0 (.slice a 0 0)).run E.P w.drew=.ok (#[] : Array Value) w.drew:=by
    cases a with
    | none=>exact run_firstCells_none w.drew _ 0 0 0
    | some ad=>exact run_firstCells_some (P:=E.P) w.drew inf.size 0 ad 0 0 [] (by simp) (by simp)
   simp [Builtin.append_,run_underlying hte,run_underlying hue,sizeOf,typeInfo,zeroValue,hinf,i2,asInt,asIntOf,hwrap,hn1,hn2,hn3,hn4,hn5,hn6,hsz0,Question.forced,hold,newRow,grownCap]
   rw [if_neg (by omega),if_neg (by rw [Int.max_eq_left (by omega)]; omega)]
  have hcl : (#[]++Builtin.zeroCells zv.cells k.toNat++Builtin.zeroCells zv.cells (grownCap w k.toNat 0 e - k.toNat)).toList=(List.replicate k.toNat zv.cells.toList).flatten++(List.replicate (grownCap w k.toNat 0 e - k.toNat) zv.cells.toList).flatten:=by
   simp [hzc]
  have hfl : ∀ m,((List.replicate m zv.cells.toList).flatten).length=m * inf.size:=fun m=>by
   rw [flatten_len (n:=inf.size) _ (fun r hr=>by rw [List.eq_of_mem_replicate hr]; simpa using hzs)]
   simp
  have hcs : (#[]++Builtin.zeroCells zv.cells k.toNat++Builtin.zeroCells zv.cells (grownCap w k.toNat 0 e - k.toNat)).size=grownCap w k.toNat 0 e * inf.size:=by
   rw [← Array.length_toList,hcl,List.length_append,hfl,hfl,← Nat.add_mul]
   congr 1
   omega
  obtain ⟨g1,g2⟩:=hg.extend hkey (cs:=#[]++Builtin.zeroCells zv.cells k.toNat++Builtin.zeroCells zv.cells (grownCap w k.toNat 0 e - k.toNat)) (el:=e) (n:=inf.size) (xs:=List.replicate k.toNat (reify0L (fun _=>none) z)) (vs:=(List.replicate k.toNat zv.cells.toList).flatten) false
   (by simpa using RepL_rep k.toNat r1) (fun u hu=>by
    obtain ⟨l,hl,hu⟩:=List.mem_flatten.1 hu
    rw [List.eq_of_mem_replicate hl] at hu
    exact r2 u hu) (fun r hr=>by rw [List.eq_of_mem_replicate hr,i5']) (fun j v hj=>by
    have hlt:=(List.getElem?_eq_some_iff.1 hj).1
    rw [← Array.getElem?_toList,hcl,List.getElem?_append_left hlt]
    exact hj) (by rw [hcs,List.length_replicate]; exact Nat.mul_le_mul_right _ hcap2) w.drew (.inr rfl)
  refine ⟨_,.slice (some ⟨w.heap.size,0,none⟩) k.toNat (grownCap w k.toNat 0 e),_,_,?_,.inl rfl,g1,?_,newCtx_le hkey,g2,fun _ hk=>hk⟩
  ·simp only [List.length_nil] at q1
   simp [execOp,ho,resolve,hcl',invoke,builtin,ea,et,q1,hrx.1,hrun]
  ·refine ⟨.inr rfl,(if_pos rfl).symm,p2,_,_,rfl,hcap2,by unfold maxLen at hcap3; omega,by unfold LIM; omega,fun hf=>(by cases hf),?_⟩
   rw [show (newCtx c key (some ⟨w.heap.size,0,none⟩) inf.size).β key=some ⟨w.heap.size,0,none⟩ from if_pos rfl]
   refine .inr ⟨by simp,_,e,(0,0),heap_new w w.drew rfl _,?_⟩
   simp only [Nat.zero_add]
   rw [hcs]
   exact Nat.le_refl _
 ·cases hs
theorem does_clr (cl : Call) (ho : o.op=.call cl) (hcl : cl.callee=.builtin .clear) (hi : toI E.P E.nt o=some i) (hg : HGood E h c w) (hop : Opnd E c w ev get i)
 (hs : opSem key get (fun k=>hk k h) i=some out) (hp : out.pre) : Does E h c w ev o key out:=by
 simp only [toI,ho,hcl] at hi
 split at hi
 ·rename_i t x ht hx
  have ea : cl.args=#[x]:=by rw [← Array.toArray_toList (xs:=cl.args),hx]
  have et : cl.argTypes=#[t]:=by rw [← Array.toArray_toList (xs:=cl.argTypes),ht]
  split at hi
  ·rename_i e hte
   split at hi
   ·rename_i m z hm hz
    split at hi
    ·rename_i hc
     cases hi
     obtain ⟨inf,zv,i1,i2,i3,i4,i5⟩:=zeroPV_ok hz
     obtain ⟨zr1,zr2⟩:=fitsL_rep (w:=w) (c:=c.d) (fitsL_0 (fun _=>none) i3)
     have i5' : (reify0L (fun _=>none) z).length=inf.size:=by rw [reify0L_len]; exact i5
     have hzs : zv.cells.size=inf.size:=by rw [← i5']; simpa using RepL.length zr1
     have hsz : szOf E.P e=inf.size:=by simp [szOf,i1]
     have hr:=hop _ x m hm (by simp [MI.ops])
     have hrun : ∀ {w' : World},(Builtin.clear_ #[t] o.type #[ev x]).run E.P w=.ok (.tuple #[]) w'→(execOp ev o).run E.P w=.ok (.value (.tuple #[])) w':=fun {w'} q=>by
      simp [execOp,ho,resolve,hcl,invoke,builtin,ea,et,q]
     simp only [opSem] at hs
     split at hs
     ·rename_i hgs
      cases hs
      rw [hgs] at hr
      obtain ⟨a,cap,q1,q2,q3,q4,q5,q6⟩:=hr
      refine Does.same (v:=.tuple #[]) (hrun ?_) rfl hg trivial
      rw [q1]
      cases a <;> simp [Builtin.clear_,run_underlying hte]
     ·rename_i g esz' off len full hgs
      split at hs
      ·rename_i e0 he0
       split at hs
       ·cases hs
       ·rename_i hf
        simp only [Bool.or_eq_true,bne_iff_ne,ne_eq,not_or,Bool.not_eq_true,Decidable.not_not] at hf
        obtain ⟨⟨f1,fb⟩,f2⟩:=hf
        simp only [Option.some.injEq] at hs
        subst hs
        have hp' : off+len≤e0.xs.length:=hp
        rw [hgs] at hr
        obtain ⟨g1,g2,g3,a,cap,q1,q2,q3,q4,q5,q6⟩:=hr
        have hh:=hg.heap g e0 he0
        have hes : e0.esz=inf.size:=by rw [hh.2.1,← g2,f2,hsz]
        by_cases h0 : len=0
        ·subst h0
         have r1 : (Builtin.clear_ #[t] o.type #[ev x]).run E.P w=.ok (.tuple #[]) w:=by
          rw [q1]
          cases a <;> simp [Builtin.clear_,run_underlying hte]
         cases hb : c.β g with
         | none =>
           have hx0 : e0.xs=[]:=by have:=hh.2.2; rw [hb] at this; exact this.1
           refine ⟨_,.tuple #[],w,c,hrun r1,.inl rfl,hg.congr fun k e' hk'=>?_,trivial,Ctx.Le.refl c,Mono.refl _ _,fun _ hk=>.inl hk⟩
           simp only [List.cons_append,List.nil_append,hk_cons] at hk'
           split at hk'
           ·rename_i h1
            subst h1
            rw [← hk',he0]
            obtain ⟨z1,z2,z3,z4⟩:=e0
            simp only at hx0
            subst hx0
            simp
           ·exact hk'
         | some ad =>
           obtain ⟨k1,k2⟩:=hg.cut he0 hb f1 (n:=off) (p:=ad.off+off * e0.esz) (by omega) [] (Nat.le_refl _)
           exact ⟨_,.tuple #[],w,c,hrun r1,.inl rfl,k1,trivial,Ctx.Le.refl c,Mono.refl _ _,fun _ hk=>.inl hk⟩
        ·obtain ⟨ad,b1,b2,⟨cs,el,fr,b3,b3',b3''⟩,b4,b5⟩:=hh.block (by omega)
         rw [b1] at q6
         rcases q6 with q6 | ⟨q6,cs2,el2,fr2,q7,q8⟩
         ·omega
         ·rw [b3] at q7
          obtain ⟨rfl,rfl,rfl⟩ : cs=cs2∧el=el2∧fr=fr2:=by simpa using q7
          obtain ⟨k1,k2⟩:=hg.cut he0 b1 f1 (n:=off) (p:=ad.off+off * e0.esz) (by omega) (Builtin.zeroCells zv.cells len).toList (Nat.le_refl _)
          have hzl : (Builtin.zeroCells zv.cells len).toList.length=len * inf.size:=by simp [size_zeroCells,hzs]
          have hz1 : ∀ u ∈ (Builtin.zeroCells zv.cells len).toList,u.oneCell'=true:=fun u hu=>by
           have:=range_flat zv.cells len
           unfold Builtin.zeroCells at hu
           rw [this] at hu
           obtain ⟨l,hl,hu⟩:=List.mem_flatten.1 hu
           rw [List.eq_of_mem_replicate hl] at hu
           exact zr2 u hu
          have hrange : (off+len) * inf.size≤e0.xs.length * inf.size:=Nat.mul_le_mul_right _ hp'
          rw [Nat.add_mul] at hrange
          have hst:=run_storeCells_cells (P:=E.P) ad.block (ad.off+off * e0.esz) (Builtin.zeroCells zv.cells len).toList 0 w
           (fun j hj=>by
            rw [hzl] at hj
            have : ad.off+off * e0.esz+j < cs.size:=by rw [hes] at b3' ⊢; omega
            simp [World.cell?,b3,this])
           (fun j hj=>by
            rw [hzl] at hj
            have h6 : ad.off+off * e0.esz+0+j < cs.size:=by rw [hes] at b3' ⊢; omega
            have:=b3'' _ h6
            simp only [World.frozen?,b3]
            simpa using this) hz1
          simp only [Nat.add_zero] at hst
          obtain ⟨len',rfl⟩ : ∃ l,len=l+1:=⟨len - 1,by omega⟩
          refine ⟨_,.tuple #[],_,c,hrun ?_,.inl rfl,k1,trivial,Ctx.Le.refl c,k2,fun _ hk=>.inl hk⟩
          rw [q1,q6,f2,hsz,← hes]
          simp [Builtin.clear_,run_underlying hte,zeroValue,typeInfo,i1,i2,hst]
      ·cases hs
     ·cases hs
    ·cases hi
   ·cases hi
  ·cases hi
 ·cases hi
theorem does_app (cl : Call) (ho : o.op=.call cl) (hcl : cl.callee=.builtin .append) (hi : toI E.P E.nt o=some i) (hg : HGood E h c w) (hkey : ¬ c.U key) (hop : Opnd E c w ev get i)
 (hs : opSem key get (fun k=>hk k h) i=some out) (hp : out.pre) : Does E h c w ev o key out:=by
 simp only [toI,ho,hcl] at hi
 split at hi
 ·rename_i t u s x ht hx
  have ea : cl.args=#[s,x]:=by rw [← Array.toArray_toList (xs:=cl.args),hx]
  have et : cl.argTypes=#[t,u]:=by rw [← Array.toArray_toList (xs:=cl.argTypes),ht]
  split at hi
  ·rename_i e e' hte hue
   split at hi
   ·rename_i ms mx inf hms hmx hinf
    split at hi
    ·rename_i hc
     cases hi
     exact does_app_core cl ho hcl ea et hte (.inl ⟨e',hue⟩) hms hmx hinf hc hg hkey hop hs hp
    ·cases hi
   ·cases hi
  ·rename_i e hte hue
   split at hi
   ·rename_i ms mx inf hms hmx hinf
    split at hi
    ·rename_i hc
     cases hi
     exact does_app_core cl ho hcl ea et hte (.inr hue) hms hmx hinf hc hg hkey hop hs hp
    ·cases hi
   ·cases hi
  ·rename_i e k0 hte hue
   split at hi
   ·rename_i ms mx z inf hms hmx hz hinf
    split at hi
    ·rename_i hc
     cases hi
     exact does_appz cl ho hcl ea et hte hue hms hmx hz hinf hc hg hkey hop hs hp
    ·cases hi
   ·cases hi
  ·cases hi
 ·cases hi
theorem rowsBytes_map : ∀ {cx : List (List PV)} {bs : List UInt8} {news : List Value},rowsBytes cx=some bs→RepL w c.d cx.flatten news→∃ ns : List Int,news=ns.map (Value.int .u8)∧bs=ns.map (fun n=>UInt8.ofNat n.toNat)
 | [],bs,news,h,hr=>by
   simp [rowsBytes] at h
   subst h
   have : news=[]:=hr
   subst this
   exact ⟨[],rfl,rfl⟩
 | [.int .u8 n]::rs,bs,news,h,hr=>by
   simp only [rowsBytes,Option.map_eq_some_iff] at h
   obtain ⟨bs',h1,rfl⟩:=h
   obtain ⟨v,vs,rfl,hv,hr'⟩:=hr
   obtain ⟨ns,rfl,rfl⟩:=rowsBytes_map h1 hr'
   exact ⟨n::ns,by rw [hv.1]; rfl,rfl⟩
 | []::_,_,_,h,_=>by simp [rowsBytes] at h
 | (_::_::_)::_,_,_,h,_=>by simp [rowsBytes] at h
 | [.undef]::_,_,_,h,_ | [.bool _]::_,_,_,h,_ | [.str _]::_,_,_,h,_ | [.nilp]::_,_,_,h,_ | [.nilf]::_,_,_,h,_ | [.nili]::_,_,_,h,_ | [.vec _ _ _]::_,_,_,h,_ | [.ref _]::_,_,_,h,_ | [.own _ _ _ _ _]::_,_,_,h,_ | [.ptr _ _ _ _]::_,_,_,h,_ | [.agg _]::_,_,_,h,_ | [.tup _]::_,_,_,h,_ | [.fn _ _ _]::_,_,_,h,_ | [.iface _ _]::_,_,_,h,_ | [.opt _ _]::_,_,_,h,_ | [.raw _]::_,_,_,h,_ | [.mapf _]::_,_,_,h,_=>by simp [rowsBytes] at h
 | [.int .i8 _]::_,_,_,h,_ | [.int .i16 _]::_,_,_,h,_ | [.int .i32 _]::_,_,_,h,_ | [.int .i64 _]::_,_,_,h,_ | [.int .u16 _]::_,_,_,h,_ | [.int .u32 _]::_,_,_,h,_ | [.int .u64 _]::_,_,_,h,_=>by simp [rowsBytes] at h
theorem rowsBytes_len : ∀ {cx : List (List PV)} {bs : List UInt8},rowsBytes cx=some bs→cx.flatten.length=cx.length∧bs.length=cx.length
 | [],bs,h=>by simp [rowsBytes] at h; subst h; simp
 | r::rs,bs,h=>by
   unfold rowsBytes at h
   split at h
   ·rename_i heq; cases heq
   ·rename_i n rs' heq
    cases heq
    obtain ⟨bs',h1,rfl⟩:=Option.map_eq_some_iff.1 h
    obtain ⟨k1,k2⟩:=rowsBytes_len h1
    simp [k1,k2]
   ·cases h
theorem pushes : ∀ (ns : List Int) (s : ByteArray),(ns.foldl (fun r n=>r.push (UInt8.ofNat n.toNat)) s).data.toList=s.data.toList++ns.map (fun n=>UInt8.ofNat n.toNat)
 | [],s=>by simp
 | n::ns,s=>by
   rw [List.foldl_cons,pushes ns]
   simp
theorem bytes_rep {w : World} {c : Ctx} : ∀ l : List UInt8,RepL w c (l.map fun b=>[PV.int .u8 b.toNat]).flatten (l.map fun b=>Value.int .u8 b.toNat)
 | []=>rfl
 | b::l=>⟨_,_,rfl,⟨rfl,by simp [IntKind.min,IntKind.signed],by have:=b.toNat_lt; simp [IntKind.max,IntKind.signed,IntKind.bits]; omega⟩,bytes_rep l⟩
theorem does_s2b (sT d : TypeId) (x : Operand) (m : MO) (ho : o.op=.convert sT d x) (hi : toI E.P E.nt o=some (.s2b m)) (hg : HGood E h c w) (hkey : ¬ c.U key) (hop : Opnd E c w ev get (.s2b m))
 (hs : opSem key get (fun k=>hk k h) (.s2b m)=some out) (hp : out.pre) : Does E h c w ev o key out:=by
 simp only [toI,ho] at hi
 split at hi
 ·cases hi
 split at hi
 ·obtain ⟨_,_,hh⟩:=Option.map_eq_some_iff.1 hi
  cases hh
 ·split at hi
  ·split at hi
   ·obtain ⟨_,_,hh⟩:=Option.map_eq_some_iff.1 hi
    cases hh
   ·cases hi
  ·cases hi
 ·rename_i e hd
  split at hi
  ·rename_i hsT he
   obtain ⟨m',hm,hmm⟩:=Option.map_eq_some_iff.1 hi
   cases hmm
   have hr:=hop _ x m hm (by simp [MI.ops])
   simp only [opSem] at hs
   split at hs
   ·rename_i s hgs
    cases hs
    rw [hgs] at hr
    obtain ⟨hv,hsz⟩:=hr
    have hrun:=run_bytes_of_string (P:=E.P) w sT d e s hsT hd he
    obtain ⟨cap,hcap⟩ : ∃ cap,cap=grownCap w s.size 0 e:=⟨_,rfl⟩
    have hle : s.size≤cap:=by rw [hcap]; exact grownCap_ge w _ _ e
    have hmx : cap≤9223372036854775807:=by
     rw [hcap]
     have:=grownCap_le_maxLen w s.size 0 e (by unfold LIM at hsz; unfold maxLen; omega)
     unfold maxLen at this; exact this
    rw [← hcap] at hrun
    have hbs : (bytesRow s cap).size=cap:=by
     simp [bytesRow]; omega
    rw [hbs] at hrun
    obtain ⟨g1,g2⟩:=hg.extendF hkey (cs:=bytesRow s cap) (el:=e) (n:=1) (xs:=s.data.toList.map fun b=>[.int .u8 b.toNat]) (vs:=s.data.toList.map fun b=>Value.int .u8 b.toNat) false (cap,cap+1) (fun o ho=>by rw [hbs] at ho; simp; omega)
     (bytes_rep _) (fun u hu=>by
      obtain ⟨b,_,rfl⟩:=List.mem_map.1 hu
      rfl) (fun r hr=>by
      obtain ⟨b,_,rfl⟩:=List.mem_map.1 hr
      rfl) (fun j v hj=>by
      have hlt:=(List.getElem?_eq_some_iff.1 hj).1
      rw [← Array.getElem?_toList]
      simp only [bytesRow,Array.toList_append,Array.toList_map]
      rw [List.getElem?_append_left hlt]
      exact hj) (by rw [hbs]; simp; exact hle) w.drew (.inr rfl)
    refine ⟨_,.slice (some ⟨w.heap.size,0,none⟩) s.size cap,_,_,by simp [execOp,ho,hv,hrun],.inl rfl,g1,?_,newCtx_le hkey,g2,fun _ hk=>hk⟩
    refine ⟨.inr rfl,(if_pos rfl).symm,by decide,some ⟨w.heap.size,0,none⟩,cap,rfl,hle,hmx,hsz,by simp,?_⟩
    rw [show (newCtx c key (some ⟨w.heap.size,0,none⟩) 1).β key=some ⟨w.heap.size,0,none⟩ from if_pos rfl]
    refine .inr ⟨by simp,bytesRow s cap,e,(cap,cap+1),heap_new w w.drew rfl _,by rw [hbs]; simp⟩
   ·cases hs
  ·cases hi
 ·cases hi
 ·cases hi
theorem does_b2s (sT d : TypeId) (x : Operand) (m : MO) (ho : o.op=.convert sT d x) (hi : toI E.P E.nt o=some (.b2s m)) (hg : HGood E h c w) (hop : Opnd E c w ev get (.b2s m))
 (hs : opSem key get (fun k=>hk k h) (.b2s m)=some out) (hp : out.pre) : Does E h c w ev o key out:=by
 simp only [toI,ho] at hi
 split at hi
 ·cases hi
 split at hi
 ·obtain ⟨_,_,hh⟩:=Option.map_eq_some_iff.1 hi
  cases hh
 ·rename_i hd
  split at hi
  ·rename_i e hse
   split at hi
   ·rename_i he
    obtain ⟨m',hm,hmm⟩:=Option.map_eq_some_iff.1 hi
    cases hmm
    have hr:=hop _ x m hm (by simp [MI.ops])
    simp only [opSem] at hs
    split at hs
    ·cases hs
    ·rename_i hns
     split at hs
     ·rename_i po xe rd cx hro
      split at hs
      ·rename_i bs hbs
       cases hs
       obtain ⟨p1,p2⟩:=hp
       obtain ⟨news,n1,n2,n3⟩:=slice_src (P:=E.P) (tx:=sT) (size:=xe) (.inl ⟨e,hse⟩) hg hr hro p1 (.inr rfl)
       obtain ⟨ns,hn,hb⟩:=rowsBytes_map hbs n1
       obtain ⟨l1,l2⟩:=rowsBytes_len hbs
       have hnl : news.length=cx.length:=by rw [RepL.length n1,l1]
       have hxe : cx.length * xe=cx.length:=by rw [← n3.newsLen,hnl]
       obtain ⟨a,n,cap,hv⟩ : ∃ a n cap,ev x=.slice a n cap:=by
        unfold rowsOf at hro
        split at hro
        ·rename_i esz full xs hx
         rw [hx] at hr
         obtain ⟨a,cap,q1,_⟩:=hr
         exact ⟨a,_,cap,q1⟩
        ·rename_i g esz off len full hx
         rw [hx] at hr
         obtain ⟨_,_,_,a,cap,q1,_⟩:=hr
         exact ⟨a,len,cap,q1⟩
        ·rename_i s hx
         exact (hns s hx).elim
        ·cases hro
       have hlen:=n3.len w
       rw [hv] at hlen
       simp only [Builtin.lenOf,Sem.run_pure,Result.ok.injEq] at hlen
       obtain ⟨rfl,_⟩:=hlen
       have hcells:=n3.cells
       rw [hv] at hcells
       have hstr : ∀ q : ByteArray,q.data.toList=bs→(⟨bs.toArray⟩ : ByteArray)=q:=fun q hq=>by
        apply ByteArray.ext
        apply Array.ext'
        simpa using hq.symm
       have hsz : (⟨bs.toArray⟩ : ByteArray).size≤LIM:=by
        show bs.toArray.size≤LIM
        simp [l2]; exact p2
       have fin : ∀ q : ByteArray,q.data.toList=bs→(Conv.bytesToString (.slice a cx.length cap)).run E.P w=.ok (.string q) w→Does E h c w ev o key ⟨po∧cx.length≤LIM,rd,.str ⟨bs.toArray⟩,[]⟩:=fun q hq hrun=>by
        refine Does.same (v:=.string q) (by simp [execOp,ho,hv,run_convert_bytes_string w sT d e a cx.length cap hse he hd,hrun]) rfl hg ⟨by rw [← hstr q hq],hsz⟩
       cases a with
       | none =>
         have h0 : news=[]:=by
          have : (Builtin.firstCells xe cx.length (.slice none cx.length cap)).run E.P w=.ok (#[] : Array Value) w:=rfl
          rw [this] at hcells
          simp only [Result.ok.injEq,and_true] at hcells
          have:=congrArg Array.toList hcells
          simpa using this.symm
         rw [h0] at hn
         have hns0 : ns=[]:=by simpa using hn.symm
         rw [hns0] at hb
         exact fin ByteArray.empty (by rw [hb]; rfl) rfl
       | some ad =>
         have hload : (loadCells ad cx.length).run E.P w=.ok (ns.map (Value.int .u8)).toArray w:=by
          have : (loadCells ad (cx.length * xe)).run E.P w=.ok news.toArray w:=hcells
          rw [hxe,hn] at this
          exact this
         exact fin _ (by rw [pushes,hb]; rfl) (run_bytesToString w ad cx.length cap ns hload)
      ·cases hs
     ·cases hs
   ·cases hi
  ·cases hi
 ·split at hi
  ·obtain ⟨_,_,hh⟩:=Option.map_eq_some_iff.1 hi
   cases hh
  ·cases hi
 ·cases hi
 ·cases hi
end
end Go.Proofs.YtbdogkmdanmojaaGreatDoor.Pv
namespace Go.Proofs.YtbdogkmdanmojaaGreatDoor.Pv
open Go Go.RowKit
section
variable {E : Env} {h : List (Key × Option HE)} {c : Ctx} {w : World} {ev : Operand→Value} {get : MO→PV} {o : Oper} {i : MI} {key : Key} {out : Out}
theorem lookF_hit {s : ByteArray} : ∀ {es : List (ByteArray × Nat)} {p : ByteArray × Nat},p ∈ es→(∀ p ∈ es,∀ q ∈ es,p.1=q.1→p=q)→p.1=s→lookF s es=.tup [.fn p.2 [] [],.bool true]
 | (k,f)::es,p,hp,hu,hs=>by
   unfold lookF
   by_cases hk : k=s
   ·have e : p=(k,f):=hu _ hp _ (List.mem_cons_self ..) (hs.trans hk.symm)
    rw [if_pos (by rw [hk]; simp [strEq]),e]
   ·have hn : ¬ (strEq k s=true):=fun h=>hk (by
       have h1 : k.data.toList=s.data.toList:=by simpa [strEq] using h
       cases k; cases s; simp at h1; rw [h1])
    rw [if_neg hn]
    rcases List.mem_cons.1 hp with rfl | hp
    ·exact absurd hs hk
    ·exact lookF_hit hp (fun p hp q hq=>hu p (List.mem_cons_of_mem _ hp) q (List.mem_cons_of_mem _ hq)) hs
theorem lookF_miss {s : ByteArray} : ∀ {es : List (ByteArray × Nat)},(∀ p ∈ es,p.1 ≠ s)→lookF s es=.tup [.nilf,.bool false]
 | [],_=>rfl
 | (k,f)::es,h=>by
   unfold lookF
   have hk : k ≠ s:=h (k,f) (List.mem_cons_self ..)
   have hn : ¬ (strEq k s=true):=fun h=>hk (by
    have h1 : k.data.toList=s.data.toList:=by simpa [strEq] using h
    cases k; cases s; simp at h1; rw [h1])
   rw [if_neg hn]
   exact lookF_miss fun p hp=>h p (List.mem_cons_of_mem _ hp)
theorem does_look (t : TypeId) (m x : Operand) (cm : Bool) (ho : o.op=.lookup t m x cm) (hi : toI E.P E.nt o=some i) (hg : HGood E h c w) (hop : Opnd E c w ev get i)
 (hs : opSem key get (fun k=>hk k h) i=some out) (hp : out.pre) : Does E h c w ev o key out:=by
 simp only [toI,ho] at hi
 split at hi
 ·rename_i kt et ht
  split at hi
  ·rename_i hkt hz
   split at hi
   ·rename_i hc
    simp only [Bool.and_eq_true,Bool.not_eq_true'] at hc
    obtain ⟨rfl,hag⟩:=hc
    split at hi
    ·rename_i mm mk hm hx
     cases hi
     have r1:=hop _ m mm hm (by simp [MI.ops])
     have r2:=hop _ x mk hx (by simp [MI.ops])
     simp only [opSem] at hs
     split at hs
     ·rename_i es s g1 g2
      rw [g1] at r1
      rw [g2] at r2
      simp only [Option.some.injEq] at hs
      subst hs
      obtain ⟨b,e1,_,arr,clock,hb,k1,k2,k3⟩:=r1
      obtain ⟨e2,hsz⟩:=r2
      obtain ⟨i,z,h1,h2,h3,h4,_⟩:=zeroPV_ok hz
      have hzv : z=.nilFunc:=by
       rw [hag] at h4
       cases z <;> simp [isAggV,Value.cells,fitsL,fitsV] at h3 h4 ⊢
      have hzr : (zeroValue et).run E.P w=.ok .nilFunc w:=by
       rw [hzv] at h2
       simp only [zeroValue,typeInfo,Sem.run_bind,run_program,h1,h2,Result.andThen_ok,Sem.run_pure]
      have K:=Maps.string_keyed hkt
      have hkey : keyOf E.P kt (.string s)=some (.string s.data.toList):=WideMaps.keyOf_string_mk hkt (by unfold LIM at hsz; unfold maxLen; omega)
      have hkeys : ∀ e ∈ arr.toList,∃ l,keyOf E.P kt e.key=some l:=fun e he=>by
       obtain ⟨p,_,q1,_,q2⟩:=k1 e he
       exact ⟨_,by rw [q1]; exact WideMaps.keyOf_string_mk hkt (by unfold LIM at q2; unfold maxLen; omega)⟩
      rcases K.find w hkey arr.toList hkeys with ⟨f1,f2⟩ | ⟨j,e0,f1,f2,f3⟩
      ·refine Does.same (v:=.tuple #[.nilFunc,.bool false]) (by simp [execOp,ho,e1,e2,Instr.lookup,run_underlying ht,MapKept.run_getObj_map hb,K.check w _ hkey,f1,hzr,Result.andThen]) rfl hg ?_
       have hmiss : ∀ p ∈ es,p.1 ≠ s:=fun p hp e=>by
        obtain ⟨e',he',q⟩:=k2 p hp
        exact f2 e' he' (by rw [q,e])
       show RepV w c (lookF s es) _
       rw [lookF_miss hmiss]
       exact ⟨_,rfl,⟨_,_,rfl,rfl,⟨_,_,rfl,rfl,rfl⟩⟩⟩
      ·have hm0 : e0 ∈ arr.toList:=List.mem_of_getElem? f2
       obtain ⟨p,hp',q1,q2,_⟩:=k1 e0 hm0
       have hps : p.1=s:=by rw [f3] at q1; exact (Value.string.inj q1).symm
       refine Does.same (v:=.tuple #[e0.val,.bool true]) (by simp [execOp,ho,e1,e2,Instr.lookup,run_underlying ht,MapKept.run_getObj_map hb,K.check w _ hkey,f1,Result.andThen]) rfl hg ?_
       show RepV w c (lookF s es) _
       rw [lookF_hit hp' k3 hps,q2]
       exact ⟨_,rfl,⟨_,_,rfl,⟨_,_,rfl,rfl,rfl⟩,⟨_,_,rfl,rfl,rfl⟩⟩⟩
     ·cases hs
    ·cases hi
   ·cases hi
  ·cases hi
 ·cases hi
theorem op_does (hi : toI E.P E.nt o=some i) (hg : HGood E h c w) (hkey : ¬ c.U key) (hop : Opnd E c w ev get i)
 (hs : opSem key get (fun k=>hk k h) i=some out) (hp : out.pre) : Does E h c w ev o key out:=by
 cases ho : o.op with
 | move x=>exact does_mv x (.inl ho) hi hg hop hs hp
 | assign x=>exact does_mv x (.inr ho) hi hg hop hs hp
 | pick a b d=>exact does_pick a b d ho hi hg hop hs hp
 | alloc t=>exact does_alloc t ho hi hg hkey hs hp
 | box t x=>exact does_box t x ho hi hg hkey hop hs hp
 | build t ps=>exact does_build t ps ho hi hg hop hs hp
 | buildSlice t n ps=>exact does_bslice t n ps ho hi hg hkey hop hs hp
 | load t x=>exact does_load t x ho hi hg hop hs hp
 | store t x y=>exact does_store t x y ho hi hg hop hs hp
 | nilCheck x=>exact does_nilck x ho hi hg hop hs hp
 | binOp op t x y u =>
   cases hn : isNilCmp E.P t y with
   | false=>exact does_bin op t u x y ho hn hi hg hop hs hp
   | true =>
     simp only [toI,ho,hn,if_true] at hi
     split at hi
     ·obtain ⟨m,_,rfl⟩:=Option.map_eq_some_iff.1 hi
      simp [opSem] at hs
     ·obtain ⟨m,_,rfl⟩:=Option.map_eq_some_iff.1 hi
      simp [opSem] at hs
     ·cases hi
 | unOp op t x=>exact does_un op t x ho hi hg hop hs hp
 | convert s d x =>
   cases i with
   | b2s m=>exact does_b2s s d x m ho hi hg hop hs hp
   | s2b m=>exact does_s2b s d x m ho hi hg hkey hop hs hp
   | _=>exact does_conv s d x ho (fun y=>by simp) hi hg hop hs hp
 | fieldAddr s x f=>exact does_faddr s x f ho hi hg hop hs hp
 | field s x f=>exact does_field s x f ho hi hg hop hs hp
 | indexAddr t x y=>exact does_iaddr t x y ho hi hg hop hs hp
 | index t x y=>exact does_idx t x y ho hi hg hop hs hp
 | slice t x lo hi' mx=>exact does_slc t x lo hi' mx ho hi hg hop hs hp
 | makeSlice t l c=>exact does_mksl t l c ho hi hg hkey hop hs hp
 | extract x n=>exact does_ext x n ho hi hg hop hs hp
 | makeInterface t x=>exact does_mkif t x ho hi hg hop hs hp
 | makeMap t r =>
   simp only [toI,ho] at hi
   split at hi
   ·cases hi
    simp [opSem] at hs
   ·cases hi
 | mapUpdate t m k x =>
   simp only [toI,ho] at hi
   split at hi
   ·cases hi
    simp [opSem] at hs
   ·cases hi
 | lookup t m k cm=>exact does_look t m k cm ho hi hg hop hs hp
 | makeFunc f a b =>
   cases f with
   | func f=>exact does_mkfn f a b ho hi hg hop hs hp
   | _=>simp [toI,ho] at hi
 | call cl =>
   cases hcl : cl.callee with
   | value f =>
     simp only [toI,ho,hcl] at hi
     cases f with
     | func f =>
       simp only at hi
       split at hi
       ·obtain ⟨m,_,rfl⟩:=Option.map_eq_some_iff.1 hi
        simp [opSem] at hs
       ·cases hi
     | tmp t =>
       simp only at hi
       split at hi
       ·obtain ⟨m,_,rfl⟩:=Option.map_eq_some_iff.1 hi
        simp [opSem] at hs
       ·cases hi
     | _=>simp at hi
   | invoke r m=>simp [toI,ho,hcl] at hi
   | builtin b =>
     cases b with
     | append=>exact does_app cl ho hcl hi hg hkey hop hs hp
     | cap=>exact does_cap cl ho hcl hi hg hop hs hp
     | clear=>exact does_clr cl ho hcl hi hg hop hs hp
     | len=>exact does_len 0 (.tmp 0) cl ho hcl hi hg hop hs hp
     | max=>exact does_minmax true cl ho hcl hi hg hop hs hp
     | min=>exact does_minmax false cl ho hcl hi hg hop hs hp
     | _=>simp [toI,ho,hcl] at hi
 | _=>simp [toI,ho] at hi
theorem toI_nil {ne : Bool} {x : MO} (hi : toI E.P E.nt o=some (.nilcmp ne x)) :
 ∃ op t y z u,o.op=.binOp op t y z u∧isNilCmp E.P t z=true∧((op=.eql∧ne=false)∨(op=.neq∧ne=true))∧toO E.P E.nt t y=some x:=by
 cases ho : o.op with
 | binOp op t y z u =>
   simp only [toI,ho] at hi
   split at hi
   ·rename_i hn
    refine ⟨op,t,y,z,u,rfl,hn,?_⟩
    cases op <;> simp at hi
    ·obtain ⟨h1,h2⟩:=hi; exact ⟨.inl ⟨rfl,h2⟩,h1⟩
    ·obtain ⟨h1,h2⟩:=hi; exact ⟨.inr ⟨rfl,h2⟩,h1⟩
   ·split at hi <;> simp at hi
 | makeFunc f a b =>
   cases f <;> simp only [toI,ho] at hi
   all_goals (first | (cases hi; done) | skip)
   all_goals (repeat' split at hi)
   all_goals (first | (cases hi; done) | (simp at hi; done))
 | _ =>
   simp only [toI,ho] at hi
   repeat' split at hi
   all_goals (first | (cases hi; done) | (simp at hi; done) | (simp at hi; exact absurd hi.2 (by simp)))
theorem toI_call {f : FuncId} {args : List MO} (hi : toI E.P E.nt o=some (.call f args)) :
 ∃ cl,o.op=.call cl∧cl.callee=.value (.func f)∧callable E.P f=true∧toOs E.P E.nt cl.argTypes.toList cl.args.toList=some args:=by
 cases ho : o.op with
 | call cl =>
   refine ⟨cl,rfl,?_⟩
   simp only [toI,ho] at hi
   repeat' split at hi
   all_goals first
     | (cases hi; done)
     | (simp at hi; done)
     | (rename_i h1 h2
        simp only [Option.map_eq_some_iff,MI.call.injEq] at hi
        obtain ⟨a,h3,rfl,rfl⟩:=hi
        exact ⟨h1,h2,h3⟩)
 | makeFunc f a b =>
   cases f <;> simp only [toI,ho] at hi
   all_goals (first | (cases hi; done) | skip)
   all_goals (repeat' split at hi)
   all_goals (first | (cases hi; done) | (simp at hi; done))
 | _ =>
   simp only [toI,ho] at hi
   repeat' split at hi
   all_goals (first | (cases hi; done) | (simp at hi; done))
theorem toI_dcall {f : MO} {args : List MO} (hi : toI E.P E.nt o=some (.dcall f args)) :
 ∃ cl t,o.op=.call cl∧cl.callee=.value (.tmp t)∧t < E.nt∧f=.t t∧toOs E.P E.nt cl.argTypes.toList cl.args.toList=some args:=by
 cases ho : o.op with
 | call cl =>
   refine ⟨cl,?_⟩
   simp only [toI,ho] at hi
   repeat' split at hi
   all_goals first
     | (cases hi; done)
     | (simp at hi; done)
     | (rename_i t h1 h2
        simp only [Option.map_eq_some_iff,MI.dcall.injEq] at hi
        obtain ⟨a,h3,rfl,rfl⟩:=hi
        exact ⟨t,rfl,h1,h2,rfl,h3⟩)
 | makeFunc f a b =>
   cases f <;> simp only [toI,ho] at hi
   all_goals (first | (cases hi; done) | skip)
   all_goals (repeat' split at hi)
   all_goals (first | (cases hi; done) | (simp at hi; done))
 | _ =>
   simp only [toI,ho] at hi
   repeat' split at hi
   all_goals (first | (cases hi; done) | (simp at hi; done))
theorem equal_slice {P : Program} {t e : TypeId} (hu : P.underlying t=some (.slice e)) (a : Option Addr) (n k : Nat) : (Op.equal t (.slice a n k) (.slice none 0 0)).run P w=.ok a.isNone w:=by
 have key : ∀ d : Nat,(Op.equalIn (d+1) t (.slice a n k) (.slice none 0 0)).run P w=.ok a.isNone w:=fun d=>by
  unfold Op.equalIn
  simp only [Sem.run_bind,run_underlying hu,Result.andThen_ok]
  cases a <;> rfl
 exact key 9999
theorem eqGuard_slice (op : BinOp) (t : TypeId) (x y : Operand) (a b : Option Addr) (n k m l : Nat) : (eqGuard op t x y (.slice a n k) (.slice b m l)).run E.P w=.ok () w:=by
 unfold eqGuard; cases op <;> rfl
theorem nil_does {ne : Bool} {x : MO} (hi : toI E.P E.nt o=some (.nilcmp ne x)) (hev : ∀ v,ev (.const v)=v) (hop : Opnd E c w ev get (.nilcmp ne x)) :
 (∀ esz full xs,get x=.vec esz full xs→∃ b : Bool,(b=true→xs=[])∧(execOp ev o).run E.P w=.ok (.value (.bool (b != ne))) w) ∧
 (∀ g esz off len full,get x=.own g esz off len full→∃ b : Bool,(b=true→len=0)∧(execOp ev o).run E.P w=.ok (.value (.bool (b != ne))) w):=by
 obtain ⟨op,t,y,z,u,ho,hn,hne,hx⟩:=toI_nil hi
 have hr:=hop t y x hx (by simp [MI.ops])
 simp only [isNilCmp,Bool.and_eq_true] at hn
 obtain ⟨n1,n2⟩:=hn
 obtain ⟨e,hu⟩ : ∃ e,E.P.underlying t=some (.slice e):=by
  split at n2
  ·rename_i e he; exact ⟨e,he⟩
  ·cases n2
 have hz : ev z=.slice none 0 0:=by
  unfold isNilC at n1
  split at n1
  ·exact hev _
  ·cases n1
 have hrun : ∀ (a : Option Addr) (n k : Nat),ev y=.slice a n k→(execOp ev o).run E.P w=.ok (.value (.bool (a.isNone != ne))) w:=fun a n k hy=>by
  rcases hne with ⟨rfl,rfl⟩ | ⟨rfl,rfl⟩
  ·have : (binOp .eql t (.slice a n k) (.slice none 0 0)).run E.P w=.ok (.bool a.isNone) w:=by
      show ((Op.equal t (.slice a n k) (.slice none 0 0)) >>= fun r=>pure (Value.bool r)).run E.P w=_
      rw [Sem.run_bind,equal_slice hu]; rfl
   simp [execOp,ho,hy,hz,eqGuard_slice,this]
  ·have : (binOp .neq t (.slice a n k) (.slice none 0 0)).run E.P w=.ok (.bool (!a.isNone)) w:=by
      show ((Op.equal t (.slice a n k) (.slice none 0 0)) >>= fun r=>pure (Value.bool (!r))).run E.P w=_
      rw [Sem.run_bind,equal_slice hu]; rfl
   simp [execOp,ho,hy,hz,eqGuard_slice,this]
 refine ⟨fun esz full xs hg=>?_,fun g esz off len full hg=>?_⟩
 ·rw [hg] at hr
  obtain ⟨a,cap,q1,q2,q3,q4,q5,q6⟩:=hr
  refine ⟨a.isNone,fun hb=>?_,hrun a _ _ q1⟩
  rcases q6 with q6 | ⟨ad,q6,_⟩
  ·exact q6
  ·rw [q6] at hb; cases hb
 ·rw [hg] at hr
  obtain ⟨_,_,_,a,cap,q1,q2,q3,q4,q5,q6⟩:=hr
  refine ⟨a.isNone,fun hb=>?_,hrun a _ _ q1⟩
  split at q6
  ·exact q6.1
  ·rcases q6 with q6 | ⟨q6,_⟩
   ·omega
   ·rw [q6] at hb; cases hb
theorem run_call {P : Program} {cl : Call} (ho : o.op=.call cl) {g : Operand} (hcl : cl.callee=.value g) {f : FuncId} {a b : Array Value} (hg : ev g=.func (.func f) a b) (hc : callable P f=true) :
 (execOp ev o).run P w=.ok (.enter f (a++cl.args.map ev++b)) w:=by
 unfold callable at hc
 split at hc
 ·rename_i fn hf
  simp only [Bool.and_eq_true,bne_iff_ne,ne_eq] at hc
  obtain ⟨h1,h2⟩:=hc
  have h3 : fn.body.isNone=false:=by cases hb : fn.body <;> simp_all
  simp [execOp,ho,resolve,hcl,hg,Deferred.ofValue,invoke,callFunc,hf,h2,h3]
  intro hn
  simp [hn] at h1
 ·cases hc
end
end Go.Proofs.YtbdogkmdanmojaaGreatDoor.Pv
namespace Go.Proofs.YtbdogkmdanmojaaGreatDoor.Pv
open Go Go.RowKit
def After (E : Env) (h : List (Key × Option HE)) (c : Ctx) (w : World) (key : Key) (out : Out) (v : Value) (w' : World) : Prop :=
 ∃ c',HGood E (out.hu++h) c' w'∧RepV w' c' out.r v∧c.Le c'∧Mono c.Fz w w'∧∀ k,c'.U k→c.U k∨k=key
mutual
theorem scalar_rep {w : World} {c c' : Ctx} : ∀ (x : PV) (v : Value),scalar x=true→RepV w c x v→RepV w c' x v
 | .bool _,_,_,h=>h
 | .int _ _,_,_,h=>h
 | .str _,_,_,h=>h
 | .nilp,_,_,h=>h
 | .nilf,_,_,h=>h
 | .nili,_,_,h=>h
 | .tup cs,v,hs,h=>by
   obtain ⟨vs,e,h1⟩:=h
   exact ⟨vs,e,scalarL_rep cs _ hs h1⟩
 | .agg cs,v,hs,h=>by
   obtain ⟨vs,e,h1,h2⟩:=h
   exact ⟨vs,e,scalarL_rep cs _ hs h1,h2⟩
 | .undef,_,hs,_ | .vec _ _ _,_,hs,_ | .ref _,_,hs,_ | .own _ _ _ _ _,_,hs,_ | .ptr _ _ _ _,_,hs,_ | .fn _ _ _,_,hs,_ | .iface _ _,_,hs,_ | .opt _ _,_,hs,_ | .raw _,_,hs,_ | .mapf _,_,hs,_=>by
   simp [scalar] at hs
theorem scalarL_rep {w : World} {c c' : Ctx} : ∀ (xs : List PV) (vs : List Value),scalarL xs=true→RepL w c xs vs→RepL w c' xs vs
 | [],_,_,h=>h
 | x::xs,_,hs,h=>by
   simp only [scalarL,Bool.and_eq_true] at hs
   obtain ⟨u,us,e,h1,h2⟩:=h
   exact ⟨u,us,e,scalar_rep x u hs.1 h1,scalarL_rep xs us hs.2 h2⟩
end
theorem dctx_le {F : Nat→Prop} {c' : Ctx} (h : ∀ b,F b→c'.Fz b) : (dctx F).Le c':=⟨fun _ h=>h.elim,fun _ h=>h.elim,fun _ h=>h.elim,h⟩
theorem le_dctx {F : Nat→Prop} {c : Ctx} (h : ∀ b,c.Fz b→F b) : c.d.Le (dctx F):=⟨fun _ h=>h.elim,fun _ h=>h.elim,fun _ h=>h.elim,h⟩
theorem mono_below {F : Nat→Prop} {w w' : World} (hF : ∀ b,F b→b < w.heap.size) (hb : Bel w.heap.size w w') : Mono F w w' :=
 ⟨hb.size,fun b h=>hb.block b (hF b h),fun b cs el fr h=>⟨cs,fr,by rw [hb.block b (Array.getElem?_eq_some_iff.1 h).1]; exact h,rfl⟩⟩
section
variable {E : Env} {h : List (Key × Option HE)} {c : Ctx} {w : World} {key : Key} {out : Out}
theorem HGood.grow (hg : HGood E h c w) {w' : World} (hb : Bel w.heap.size w w') {F' : Nat→Prop} (h1 : ∀ b,c.Fz b→F' b) (h2 : ∀ b,F' b→b < w'.heap.size∧(c.Fz b∨w.heap.size≤b)) :
 HGood E h ⟨c.β,c.es,c.U,F'⟩ w'∧Mono c.Fz w w'∧c.Le ⟨c.β,c.es,c.U,F'⟩:=by
 have hm : Mono c.Fz w w':=mono_below (fun b hb=>(hg.fz b hb).1) hb
 have hle : c.Le ⟨c.β,c.es,c.U,F'⟩:=⟨fun _ h=>h,fun _ _=>rfl,fun _ _=>rfl,h1⟩
 refine ⟨⟨fun k e he=>?_,fun k e ad he had=>?_,fun k k' e e' ad ad' he he' had had' hne=>hg.apart k k' e e' ad ad' he he' had had' hne,fun b hb'=>?_,fun b hb'=>h1 b (hg.le b hb'),hg.bnd,hg.below.trans (hb.mono hg.below.size)⟩,hm,hle⟩
 ·refine (hg.heap k e he).mono hm hle (fun ad had=>⟨fun hf=>?_,h1 _⟩) (fun ad had=>hb.block _ (hg.fresh k e ad he had).2)
  rcases (h2 _ hf).2 with h3 | h3
  ·exact h3
  ·have:=(hg.fresh k e ad he had).2
   omega
 ·have:=hg.fresh k e ad he had
  exact ⟨this.1,Nat.lt_of_lt_of_le this.2 hb.size⟩
 ·obtain ⟨h3,h4⟩:=h2 b hb'
  refine ⟨h3,?_⟩
  rcases h4 with h4 | h4
  ·exact (hg.fz b h4).2
  ·exact .inr (Nat.le_trans hg.below.size h4)
theorem HGood.gok (hg : HGood E h c w) : GOk E.P w c.Fz:=E.glob.mono (Nat.le_refl _) (.inl hg.below) hg.le
theorem blocksOf_nil (b : Nat) : ¬ blocksOf h c [] b:=fun hb=>by
 obtain ⟨k,hk,_⟩:=hb
 simp at hk
theorem ret_after (hg : HGood E h c w) {args : List PV} {vs : List Value} {f : FuncId} {r : PV} (hargs : RepL w c args vs) (hok : okL (fun k=>hk k h) args) (hr : Ret E.P f (reifyL (fun k=>hk k h) args) r) :
 Calls E.P f vs.toArray w fun e w'=>∃ v,e=.returned v∧After E h c w key (callOut (fun k=>hk k h) args r) v w':=by
 have hgf:=hg.freeze (keysL (fun k=>hk k h) args)
 have harg:=reifyL_rep hg (c1:=frzCtx h c (keysL (fun k=>hk k h) args)) (fun _ hb=>.inl hb) args vs hargs hok (fun _ hb=>.inr hb)
 refine Calls.mono (hr.2 w (frzCtx h c (keysL (fun k=>hk k h) args)).Fz vs (hgf.gok) (fun b hb=>(hgf.fz b hb).1) (RepL.mono _ _ (Mono.refl _ _) (le_dctx (fun _ h=>h)) harg)) ?_
 rintro e w' ⟨v,F',rfl,hb,h1,h2,h3⟩
 refine ⟨v,rfl,?_⟩
 unfold callOut
 by_cases hemp : (keysL (fun k=>hk k h) args).isEmpty=true
 ·
   have hk0 : keysL (fun k=>hk k h) args=[]:=by simpa using hemp
   obtain ⟨g1,g2,g3⟩:=hg.grow hb (F':=F') (fun b hb'=>h1 b (.inl hb')) (fun b hb'=>by
    obtain ⟨a1,a2⟩:=h2 b hb'
    refine ⟨a1,a2.imp (fun a2=>?_) id⟩
    rcases a2 with a2 | a2
    ·exact a2
    ·rw [hk0] at a2; exact (blocksOf_nil b a2).elim)
   exact ⟨⟨c.β,c.es,c.U,F'⟩,by simpa [hemp] using g1,RepV.mono _ _ (Mono.refl _ _) (dctx_le (fun _ h=>h)) h3,g3,g2,fun _ hk=>.inl hk⟩
 ·by_cases hs : scalar r=true
  ·obtain ⟨g1,g2,g3⟩:=hg.grow hb (F':=c.Fz) (fun b hb'=>hb') (fun b hb'=>⟨Nat.lt_of_lt_of_le (hg.fz b hb').1 hb.size,.inl hb'⟩)
   exact ⟨_,by simpa [hs] using g1,scalar_rep _ _ hs h3,g3,g2,fun _ hk=>.inl hk⟩
  ·obtain ⟨g1,g2,g3⟩:=hgf.grow hb (F':=F') h1 h2
   have g1' : HGood E (freezeAll (fun k=>hk k h) (keysL (fun k=>hk k h) args)++h) ⟨c.β,c.es,c.U,F'⟩ w':=g1
   refine ⟨⟨c.β,c.es,c.U,F'⟩,by simpa [hemp,hs] using g1',RepV.mono _ _ (Mono.refl _ _) (dctx_le (fun _ h=>h)) h3,frz_le.trans g3,g2.weaken (fun _ hb=>.inl hb),fun _ hk=>.inl hk⟩
theorem retO_after (hg : HGood E h c w) (hkey : ¬ c.U key) {args : List PV} {vs : List Value} {f : FuncId} {esz : Nat} {xs : List (List PV)} (hargs : RepL w c args vs) (hok : okL (fun k=>hk k h) args) (hr : RetO E.P f (reifyL (fun k=>hk k h) args) esz xs) :
 Calls E.P f vs.toArray w fun e w'=>∃ v,e=.returned v∧After E h c w key (callOutO (fun k=>hk k h) args key esz xs) v w':=by
 have hgf:=hg.freeze (keysL (fun k=>hk k h) args)
 have harg:=reifyL_rep hg (c1:=frzCtx h c (keysL (fun k=>hk k h) args)) (fun _ hb=>.inl hb) args vs hargs hok (fun _ hb=>.inr hb)
 refine Calls.mono (hr.2 w (frzCtx h c (keysL (fun k=>hk k h) args)).Fz vs (hgf.gok) (fun b hb=>(hgf.fz b hb).1) (RepL.mono _ _ (Mono.refl _ _) (le_dctx (fun _ h=>h)) harg)) ?_
 rintro e w' ⟨v,F',a,rfl,hb,h1,h2,h3,h4,h5⟩
 refine ⟨v,rfl,?_⟩
 obtain ⟨g1,g2,g3⟩:=hgf.grow hb (F':=F') h1 h2
 generalize hc1 : (⟨(frzCtx h c (keysL (fun k=>hk k h) args)).β,(frzCtx h c (keysL (fun k=>hk k h) args)).es,(frzCtx h c (keysL (fun k=>hk k h) args)).U,F'⟩ : Ctx)=c1 at g1 g3
 have hU : c1.U=c.U:=by rw [← hc1]; rfl
 have hF : c1.Fz=F':=by rw [← hc1]
 have hβ1 : c1.β=c.β:=by rw [← hc1]; rfl
 have hkey1 : ¬ c1.U key:=by rw [hU]; exact hkey
 have hle:=newCtx_le (a:=a) (n:=esz) hkey1
 have hβ : ∀ k,k ≠ key→(newCtx c1 key a esz).β k=c1.β k:=fun k hk=>if_neg hk
 have hβk : (newCtx c1 key a esz).β key=a:=if_pos rfl
 obtain ⟨p1,p2,p3⟩:=h4
 refine ⟨newCtx c1 key a esz,⟨fun k e he=>?_,fun k e ad he had=>?_,fun k k' e e' ad ad' he he' had had' hne=>?_,fun b hb'=>?_,g1.le,newCtx_bnd g1.bnd,g1.below⟩,?_,(frz_le.trans g3).trans hle,g2.weaken (fun _ hb=>.inl hb),fun k hk=>by rw [← hU]; exact hk⟩
 ·simp only [callOutO,List.cons_append,hk_cons] at he
  split at he
  ·rename_i e1
   subst e1
   obtain rfl:=Option.some.inj he
   refine ⟨.inr rfl,(if_pos rfl).symm,?_⟩
   rw [hβk]
   clear hβ hle hβk h3 h5 p1 p2
   cases a with
   | none=>exact p3
   | some ad =>
     obtain ⟨q1,q2,q3,q4⟩:=p3
     refine ⟨q1,q2,RepRows.mono _ _ rfl _ _ (c:=(octx (some ad) esz F').d) (c':=(newCtx c1 k (some ad) esz).d) (Mono.refl _ _) (Ctx.Le.d (fun b hb'=>?_)) q3,?_⟩
     ·show c1.Fz b
      rw [hF]; exact hb'
     ·show c1.Fz ad.block↔_
      rw [hF]; exact q4
  ·rename_i hne
   exact (g1.heap k e he).mono (Mono.refl _ _) hle (fun _ _=>Iff.rfl) (fun _ _=>rfl)
 ·simp only [callOutO,List.cons_append,hk_cons] at he
  split at he
  ·rename_i e1
   subst e1
   rw [hβk] at had
   subst had
   obtain ⟨_,⟨cs,el,fr,q2,_⟩,_⟩:=p3
   exact ⟨Nat.le_trans hg.below.size (h5 ad rfl),(Array.getElem?_eq_some_iff.1 q2).1⟩
  ·rename_i hne
   rw [hβ k hne] at had
   exact g1.fresh k e ad he had
 ·have old : ∀ k e ad,hk k (freezeAll (fun k=>hk k h) (keysL (fun k=>hk k h) args)++h)=some e→c1.β k=some ad→ad.block < w.heap.size:=fun k e ad hk hb'=>by
     rw [hβ1] at hb'
     exact (hgf.fresh k e ad hk hb').2
  simp only [callOutO,List.cons_append,hk_cons] at he he'
  split at he
  ·rename_i e1
   subst e1
   rw [hβk] at had
   rw [if_neg (fun e=>hne e.symm)] at he'
   rw [hβ k' (fun e=>hne e.symm)] at had'
   have:=old k' e' ad' he' had'
   have:=h5 ad had
   omega
  ·rename_i h1'
   rw [hβ k h1'] at had
   split at he'
   ·rename_i e2
    subst e2
    rw [hβk] at had'
    have:=old k e ad he had
    have:=h5 ad' had'
    omega
   ·rename_i h2'
    rw [hβ k' h2'] at had'
    exact g1.apart k k' e e' ad ad' he he' had had' hne
 ·have : c1.Fz b:=hb'
  exact g1.fz b this
 ·obtain ⟨q1,q2,q3,a',cap,q4,q5,q6,q7,q8,q9⟩:=h3
  refine ⟨.inr rfl,(if_pos rfl).symm,q3,a',cap,q4,q5,q6,q7,q8,?_⟩
  rw [hβk]
  exact q9
theorem call_after (hg : HGood E h c w) (hkey : ¬ c.U key) {args : List PV} {vs : List Value} {f : FuncId} {K : Out→Prop} (hargs : RepL w c args vs) (hd : doCall E.P key (fun k=>hk k h) f args fun o=>o.pre∧K o) :
 callable E.P f=true∧Calls E.P f vs.toArray w fun e w'=>∃ v,e=.returned v∧∃ o,K o∧After E h c w key o v w':=by
 rcases hd with ⟨r,hr,hp,hK⟩ | ⟨esz,xs,hr,hp,hK⟩
 ·refine ⟨hr.1,Calls.mono (ret_after (key:=key) hg hargs hp hr) ?_⟩
  rintro e w' ⟨v,he,ha⟩
  exact ⟨v,he,_,hK,ha⟩
 ·refine ⟨hr.1,Calls.mono (retO_after hg hkey hargs hp hr) ?_⟩
  rintro e w' ⟨v,he,ha⟩
  exact ⟨v,he,_,hK,ha⟩
end
end Go.Proofs.YtbdogkmdanmojaaGreatDoor.Pv
