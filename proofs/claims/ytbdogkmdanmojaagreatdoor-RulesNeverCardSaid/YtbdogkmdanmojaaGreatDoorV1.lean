/- Part 1. -/
import Derived.Calls
import Derived.Deep.AppendSrc
import Derived.Below
import Derived.RowKit3
import Derived.Laws.IdiomCopy
import Derived.Lib.LaidTab
import Derived.Lib.ItoaNum
import Derived.WalkKit
import Derived.WalkLawsBesides
set_option linter.unusedSimpArgs false
set_option linter.unusedVariables false
namespace Go.Proofs.YtbdogkmdanmojaaGreatDoor.Pv
open Go
abbrev Key:=Nat × Nat
inductive PV where
 | undef
 | bool (b : Bool)
 | int (k : IntKind) (n : Int)
 | str (s : ByteArray)
 | nilp | nilf | nili
 | vec (esz : Nat) (full : Bool) (xs : List (List PV))
 | ref (cs : List PV)
 | own (g : Key) (esz off len : Nat) (full : Bool)
 | ptr (g : Key) (esz i off : Nat)
 | agg (cs : List PV)
 | tup (vs : List PV)
 | fn (f : FuncId) (first captured : List PV)
 | iface (t : TypeId) (x : PV)
 | opt (b : Bool) (x : PV)
 | raw (v : Value)
 | mapf (es : List (ByteArray × Nat))
 deriving Inhabited
structure Ctx where
 β : Key→Option Addr
 es : Key→Nat
 U : Key→Prop
 Fz : Nat→Prop
def Ctx.d (c : Ctx) : Ctx:=⟨c.β,c.es,fun _=>False,c.Fz⟩
def LIM : Nat:=140737488355328
def MapF (w : World) (b : Nat) (es : List (ByteArray × Nat)) : Prop:=∃ arr clock,w.heap[b]? = some (.map arr clock) ∧
 (∀ e ∈ arr.toList,∃ p ∈ es,e.key=.string p.1∧e.val=.func (.func p.2) #[] #[]∧p.1.size≤LIM)∧(∀ p ∈ es,∃ e ∈ arr.toList,e.key=.string p.1)∧∀ p ∈ es,∀ q ∈ es,p.1=q.1→p=q
theorem MapF.block {w w' : World} {b : Nat} {es : List (ByteArray × Nat)} (h : MapF w b es) (hb : w'.heap[b]? = w.heap[b]?) : MapF w' b es:=by
 obtain ⟨arr,clock,h1,h2⟩:=h
 exact ⟨arr,clock,hb.trans h1,h2⟩
mutual
def RepV (w : World) : Ctx→PV→Value→Prop
 | _,.undef,_=>True
 | _,.bool b,v=>v=.bool b
 | _,.int k n,v=>v=.int k n∧k.min≤n∧n≤k.max
 | _,.str s,v=>v=.string s∧s.size≤LIM
 | _,.nilp,v=>v=.pointer none
 | _,.nilf,v=>v=.nilFunc
 | _,.nili,v=>v=.nilIface
 | c,.vec esz full xs,v=>∃ a cap,v=.slice a xs.length cap∧xs.length≤cap∧cap≤9223372036854775807∧xs.length≤LIM∧(full=true→cap=xs.length) ∧
     (xs=[]∨∃ ad,a=some ad∧ad.spot=none∧c.Fz ad.block∧RepRows w c.d esz ad.block ad.off xs)
 | c,.ref cs,v=>∃ ad,v=.pointer (some ad)∧ad.spot=none∧c.Fz ad.block∧RepAt w c.d ad.block ad.off cs
 | c,.own g esz off len full,v=>c.U g∧esz=c.es g∧0 < esz∧∃ a cap,v=.slice a len cap∧len≤cap∧cap≤9223372036854775807∧len≤LIM∧(full=true→cap=len) ∧
     match c.β g with
     | none=>len=0∧off=0∧cap=0
     | some ad=>cap=0∨(a=some ⟨ad.block,ad.off+off * esz,none⟩∧∃ cs el fr,w.heap[ad.block]? = some (.cells cs el fr)∧ad.off+(off+cap) * esz≤cs.size)
 | c,.ptr g esz i off,v=>c.U g∧esz=c.es g∧∃ ad,c.β g=some ad∧v=.pointer (some ⟨ad.block,ad.off+i * esz+off,none⟩)
 | c,.agg cs,v=>∃ vs,v=.agg vs∧RepL w c cs vs.toList∧∀ u ∈ vs.toList,u.oneCell'=true
 | c,.tup cs,v=>∃ vs,v=.tuple vs∧RepL w c cs vs.toList
 | c,.fn f first cap,v=>∃ a b,v=.func (.func f) a b∧RepL w c first a.toList∧RepL w c cap b.toList
 | c,.iface t x,v=>∃ u,v=.iface t u∧RepV w c x u
 | c,.opt b x,v=>(b=true→RepV w c x v)∧(b=false→v=undef)
 | _,.raw u,v=>v=u
 | c,.mapf es,v=>∃ b,v=.map (some b)∧c.Fz b∧MapF w b es
def RepL (w : World) : Ctx→List PV→List Value→Prop
 | _,[],vs=>vs=[]
 | c,x::xs,vs=>∃ u us,vs=u::us∧RepV w c x u∧RepL w c xs us
def RepAt (w : World) : Ctx→Nat→Nat→List PV→Prop
 | _,_,_,[]=>True
 | c,b,o,x::xs=>(∃ v,w.cell? ⟨b,o,none⟩=some v∧v.oneCell'=true∧RepV w c x v)∧RepAt w c b (o+1) xs
def RepRows (w : World) : Ctx→Nat→Nat→Nat→List (List PV)→Prop
 | _,_,_,_,[]=>True
 | c,esz,b,o,r::rs=>r.length=esz∧RepAt w c b o r∧RepRows w c esz b (o+esz) rs
end
structure Mono (F : Nat→Prop) (w w' : World) : Prop where
 size : w.heap.size≤w'.heap.size
 same : ∀ b,F b→w'.heap[b]? = w.heap[b]?
 keep : ∀ (b : Nat) (cs : Array Value) (el : TypeId) (fr : Nat × Nat),w.heap[b]? = some (Obj.cells cs el fr)→∃ (cs' : Array Value) (fr' : Nat × Nat),w'.heap[b]? = some (Obj.cells cs' el fr')∧cs'.size=cs.size
theorem Mono.refl (F : Nat→Prop) (w : World) : Mono F w w:=⟨Nat.le_refl _,fun _ _=>rfl,fun _ cs _ fr h=>⟨cs,fr,h,rfl⟩⟩
theorem Mono.trans {F : Nat→Prop} {a b c : World} (h : Mono F a b) (k : Mono F b c) : Mono F a c :=
 ⟨Nat.le_trans h.size k.size,fun x hx=>(k.same x hx).trans (h.same x hx),fun x cs el fr hx=>by
  obtain ⟨cs1,fr1,h1,e1⟩:=h.keep x cs el fr hx
  obtain ⟨cs2,fr2,h2,e2⟩:=k.keep x cs1 el fr1 h1
  exact ⟨cs2,fr2,h2,e2.trans e1⟩⟩
theorem Mono.weaken {F G : Nat→Prop} {w w' : World} (h : Mono F w w') (hs : ∀ b,G b→F b) : Mono G w w' :=
 ⟨h.size,fun b hb=>h.same b (hs b hb),h.keep⟩
structure Ctx.Le (c c' : Ctx) : Prop where
 U : ∀ g,c.U g→c'.U g
 β : ∀ g,c.U g→c'.β g=c.β g
 es : ∀ g,c.U g→c'.es g=c.es g
 Fz : ∀ b,c.Fz b→c'.Fz b
theorem Ctx.Le.refl (c : Ctx) : c.Le c:=⟨fun _ h=>h,fun _ _=>rfl,fun _ _=>rfl,fun _ h=>h⟩
theorem Ctx.Le.trans {a b c : Ctx} (h : a.Le b) (k : b.Le c) : a.Le c :=
 ⟨fun g hg=>k.U g (h.U g hg),fun g hg=>(k.β g (h.U g hg)).trans (h.β g hg),fun g hg=>(k.es g (h.U g hg)).trans (h.es g hg),fun x hx=>k.Fz x (h.Fz x hx)⟩
theorem Ctx.Le.d {c c' : Ctx} (h : ∀ b,c.Fz b→c'.Fz b) : c.d.Le c'.d:=⟨fun _ h=>h.elim,fun _ h=>h.elim,fun _ h=>h.elim,h⟩
theorem Ctx.d_le (c : Ctx) : c.d.Le c:=⟨fun _ h=>h.elim,fun _ h=>h.elim,fun _ h=>h.elim,fun _ h=>h⟩
theorem cell_of_heap {w w' : World} {b : Nat} (h : w'.heap[b]? = w.heap[b]?) (o : Nat) : w'.cell? ⟨b,o,none⟩=w.cell? ⟨b,o,none⟩:=by
 simp only [World.cell?,h]
mutual
theorem RepV.mono {w w' : World} : ∀ (x : PV) (v : Value) {c c' : Ctx},Mono c.Fz w w'→c.Le c'→RepV w c x v→RepV w' c' x v
 | .undef,_,_,_,_,_,_=>trivial
 | .bool _,_,_,_,_,_,h=>h
 | .int _ _,_,_,_,_,_,h=>h
 | .str _,_,_,_,_,_,h=>h
 | .nilp,_,_,_,_,_,h=>h
 | .nilf,_,_,_,_,_,h=>h
 | .nili,_,_,_,_,_,h=>h
 | .vec esz full xs,v,c,c',hm,hc,h=>by
   obtain ⟨a,cap,h1,h2,h3,h4,h5,h6⟩:=h
   refine ⟨a,cap,h1,h2,h3,h4,h5,?_⟩
   rcases h6 with h6 | ⟨ad,e1,e2,e3,e4⟩
   ·exact .inl h6
   ·exact .inr ⟨ad,e1,e2,hc.Fz _ e3,RepRows.mono esz ad.block (hm.same _ e3) _ xs (c:=c.d) (c':=c'.d) hm (Ctx.Le.d hc.Fz) e4⟩
 | .ref cs,v,c,c',hm,hc,h=>by
   obtain ⟨ad,e1,e2,e3,e4⟩:=h
   exact ⟨ad,e1,e2,hc.Fz _ e3,RepAt.mono ad.block (hm.same _ e3) _ cs (c:=c.d) (c':=c'.d) hm (Ctx.Le.d hc.Fz) e4⟩
 | .mapf es,v,c,c',hm,hc,h=>by
   obtain ⟨b,e1,e2,e3⟩:=h
   exact ⟨b,e1,hc.Fz _ e2,e3.block (hm.same _ e2)⟩
 | .own g esz off len full,v,c,c',hm,hc,h=>by
   obtain ⟨hg,hes,he,a,cap,h1,h2,h3,h4,h5,h6⟩:=h
   refine ⟨hc.U g hg,hes.trans (hc.es g hg).symm,he,a,cap,h1,h2,h3,h4,h5,?_⟩
   rw [hc.β g hg]
   cases hb : c.β g with
   | none=>rw [hb] at h6; exact h6
   | some ad =>
     rw [hb] at h6
     rcases h6 with h6 | ⟨e1,cs,el,fr,e2,e3⟩
     ·exact .inl h6
     ·obtain ⟨cs',fr',e4,e5⟩:=hm.keep _ _ _ _ e2
      exact .inr ⟨e1,cs',el,fr',e4,by omega⟩
 | .ptr g esz i off,v,c,c',hm,hc,h=>by
   obtain ⟨hg,hes,ad,h1,h2⟩:=h
   exact ⟨hc.U g hg,hes.trans (hc.es g hg).symm,ad,(hc.β g hg).trans h1,h2⟩
 | .agg cs,v,c,c',hm,hc,h=>by
   obtain ⟨vs,e,h,h1⟩:=h
   exact ⟨vs,e,RepL.mono cs _ hm hc h,h1⟩
 | .tup cs,v,c,c',hm,hc,h=>by
   obtain ⟨vs,e,h⟩:=h
   exact ⟨vs,e,RepL.mono cs _ hm hc h⟩
 | .fn f first cap,v,c,c',hm,hc,h=>by
   obtain ⟨a,b,e,h1,h2⟩:=h
   exact ⟨a,b,e,RepL.mono first _ hm hc h1,RepL.mono cap _ hm hc h2⟩
 | .iface t x,v,c,c',hm,hc,h=>by
   obtain ⟨u,e,h⟩:=h
   exact ⟨u,e,RepV.mono x u hm hc h⟩
 | .opt b x,v,c,c',hm,hc,h=>⟨fun hb=>RepV.mono x v hm hc (h.1 hb),h.2⟩
 | .raw _,_,_,_,_,_,h=>h
theorem RepL.mono {w w' : World} : ∀ (xs : List PV) (vs : List Value) {c c' : Ctx},Mono c.Fz w w'→c.Le c'→RepL w c xs vs→RepL w' c' xs vs
 | [],_,_,_,_,_,h=>h
 | x::xs,_,_,_,hm,hc,h=>by
   obtain ⟨u,us,e,h1,h2⟩:=h
   exact ⟨u,us,e,RepV.mono x u hm hc h1,RepL.mono xs us hm hc h2⟩
theorem RepAt.mono {w w' : World} (b : Nat) (hb : w'.heap[b]? = w.heap[b]?) : ∀ (o : Nat) (xs : List PV) {c c' : Ctx},Mono c.Fz w w'→c.Le c'→RepAt w c b o xs→RepAt w' c' b o xs
 | _,[],_,_,_,_,_=>trivial
 | o,x::xs,_,_,hm,hc,h=>by
   obtain ⟨⟨v,e,e1,h1⟩,h2⟩:=h
   exact ⟨⟨v,(cell_of_heap hb o).trans e,e1,RepV.mono x v hm hc h1⟩,RepAt.mono b hb (o+1) xs hm hc h2⟩
theorem RepRows.mono {w w' : World} (esz b : Nat) (hb : w'.heap[b]? = w.heap[b]?) : ∀ (o : Nat) (xs : List (List PV)) {c c' : Ctx},Mono c.Fz w w'→c.Le c'→RepRows w c esz b o xs→RepRows w' c' esz b o xs
 | _,[],_,_,_,_,_=>trivial
 | o,r::rs,_,_,hm,hc,h=>by
   obtain ⟨h1,h2,h3⟩:=h
   exact ⟨h1,RepAt.mono b hb o r hm hc h2,RepRows.mono esz b hb (o+esz) rs hm hc h3⟩
end
theorem RepAt.mono_cells {w w' : World} {c c' : Ctx} (hm : Mono c.Fz w w') (hc : c.Le c') (b : Nat) : ∀ (o : Nat) (xs : List PV),
 (∀ j,o≤j→j < o+xs.length→w'.cell? ⟨b,j,none⟩=w.cell? ⟨b,j,none⟩)→RepAt w c b o xs→RepAt w' c' b o xs
 | _,[],_,_=>trivial
 | o,x::xs,hb,h=>by
   obtain ⟨⟨v,e,e1,h1⟩,h2⟩:=h
   refine ⟨⟨v,(hb o (Nat.le_refl _) (by simp)).trans e,e1,RepV.mono x v hm hc h1⟩,RepAt.mono_cells hm hc b (o+1) xs (fun j h1 h2=>hb j (by omega) (by simp; omega)) h2⟩
theorem RepRows.mono_cells {w w' : World} {c c' : Ctx} (hm : Mono c.Fz w w') (hc : c.Le c') (esz b : Nat) : ∀ (o : Nat) (xs : List (List PV)),
 (∀ j,o≤j→j < o+xs.length * esz→w'.cell? ⟨b,j,none⟩=w.cell? ⟨b,j,none⟩)→RepRows w c esz b o xs→RepRows w' c' esz b o xs
 | _,[],_,_=>trivial
 | o,r::rs,hb,h=>by
   obtain ⟨h1,h2,h3⟩:=h
   have e : (r::rs).length * esz=esz+rs.length * esz:=by simp [Nat.add_mul]; omega
   exact ⟨h1,RepAt.mono_cells hm hc b o r (fun j g1 g2=>hb j g1 (by omega)) h2,RepRows.mono_cells hm hc esz b (o+esz) rs (fun j g1 g2=>hb j (by omega) (by omega)) h3⟩
theorem add_at (b o j : Nat) : (⟨b,o,none⟩ : Addr).add j=⟨b,o+j,none⟩:=by
 unfold Addr.add
 split <;> simp_all
theorem addr_of {ad : Addr} (h : ad.spot=none) : ad=⟨ad.block,ad.off,none⟩:=by
 cases ad; simp_all
theorem RepAt.vals {w : World} {c : Ctx} {b : Nat} : ∀ {o : Nat} {xs : List PV},RepAt w c b o xs→∃ vs : List Value,RepL w c xs vs∧(∀ u ∈ vs,u.oneCell'=true)∧∀ (j : Nat) (v : Value),vs[j]? = some v→w.cell? ⟨b,o+j,none⟩=some v
 | _,[],_=>⟨[],rfl,by simp,by simp⟩
 | o,x::xs,h=>by
   obtain ⟨⟨v,h1,h2,h3⟩,h4⟩:=h
   obtain ⟨vs,k1,k2,k3⟩:=RepAt.vals h4
   refine ⟨v::vs,⟨v,vs,rfl,h3,k1⟩,fun u hu=>?_,fun j u hj=>?_⟩
   ·rcases List.mem_cons.1 hu with rfl | hu
    ·exact h2
    ·exact k2 u hu
   ·match j with
    | 0=>simp at hj; subst hj; exact h1
    | j+1=>rw [show o+(j+1)=o+1+j by omega]; exact k3 j u (by simpa using hj)
theorem RepL.length {w : World} {c : Ctx} : ∀ {xs : List PV} {vs : List Value},RepL w c xs vs→vs.length=xs.length
 | [],_,h=>by rw [show _=[] from h]; rfl
 | x::xs,_,h=>by
   obtain ⟨u,us,rfl,_,h2⟩:=h
   simp [RepL.length h2]
theorem RepL.get {w : World} {c : Ctx} : ∀ {xs : List PV} {vs : List Value} (i : Nat) (x : PV),RepL w c xs vs→xs[i]? = some x→∃ v,vs[i]? = some v∧RepV w c x v
 | [],_,i,x,h,hx=>by simp at hx
 | y::ys,_,0,x,h,hx=>by
   obtain ⟨u,us,rfl,h1,_⟩:=h
   simp at hx
   subst hx
   exact ⟨u,rfl,h1⟩
 | y::ys,_,i+1,x,h,hx=>by
   obtain ⟨u,us,rfl,_,h2⟩:=h
   simpa using RepL.get i x h2 (by simpa using hx)
theorem RepL.drop {w : World} {c : Ctx} : ∀ {xs : List PV} {vs : List Value} (n : Nat),RepL w c xs vs→RepL w c (xs.drop n) (vs.drop n)
 | [],_,n,h=>by rw [show _=[] from h]; simp [RepL]
 | _::_,_,0,h=>by simpa using h
 | _::ys,_,n+1,h=>by
   obtain ⟨u,us,rfl,_,h2⟩:=h
   simpa using RepL.drop n h2
theorem RepL.take {w : World} {c : Ctx} : ∀ {xs : List PV} {vs : List Value} (n : Nat),RepL w c xs vs→RepL w c (xs.take n) (vs.take n)
 | [],_,n,h=>by rw [show _=[] from h]; simp [RepL]
 | _::_,_,0,h=>by simp [RepL]
 | y::ys,_,n+1,h=>by
   obtain ⟨u,us,rfl,h1,h2⟩:=h
   exact ⟨u,us.take n,by simp,h1,RepL.take n h2⟩
theorem RepL.append {w : World} {c : Ctx} : ∀ {xs : List PV} {vs : List Value} {ys : List PV} {us : List Value},RepL w c xs vs→RepL w c ys us→RepL w c (xs++ys) (vs++us)
 | [],_,_,_,h,k=>by rw [show _=[] from h]; simpa using k
 | _::_,_,_,_,h,k=>by
   obtain ⟨u,us,rfl,h1,h2⟩:=h
   exact ⟨u,us++_,by simp,h1,RepL.append h2 k⟩
theorem RepAt.get {w : World} {c : Ctx} {b : Nat} : ∀ {o : Nat} {xs : List PV} (i : Nat) (x : PV),RepAt w c b o xs→xs[i]? = some x→∃ v,w.cell? ⟨b,o+i,none⟩=some v∧v.oneCell'=true∧RepV w c x v
 | _,[],i,x,_,hx=>by simp at hx
 | o,y::ys,0,x,h,hx=>by
   simp at hx
   subst hx
   exact h.1
 | o,y::ys,i+1,x,h,hx=>by
   have:=RepAt.get (o:=o+1) i x h.2 (by simpa using hx)
   rwa [show o+1+i=o+(i+1) by omega] at this
theorem RepAt.drop {w : World} {c : Ctx} {b : Nat} : ∀ {o : Nat} {xs : List PV} (n : Nat),RepAt w c b o xs→RepAt w c b (o+n) (xs.drop n)
 | _,[],n,_=>by simp [RepAt]
 | o,_::_,0,h=>by simpa using h
 | o,y::ys,n+1,h=>by
   have:=RepAt.drop (o:=o+1) n h.2
   rw [show o+1+n=o+(n+1) by omega] at this
   simpa using this
theorem RepAt.take {w : World} {c : Ctx} {b : Nat} : ∀ {o : Nat} {xs : List PV} (n : Nat),RepAt w c b o xs→RepAt w c b o (xs.take n)
 | _,[],n,_=>by simp [RepAt]
 | o,_::_,0,h=>by simp [RepAt]
 | o,y::ys,n+1,h=>by simpa [RepAt] using ⟨h.1,RepAt.take (o:=o+1) n h.2⟩
theorem RepAt.append {w : World} {c : Ctx} {b : Nat} : ∀ {o : Nat} {xs ys : List PV},RepAt w c b o xs→RepAt w c b (o+xs.length) ys→RepAt w c b o (xs++ys)
 | _,[],_,_,k=>by simpa using k
 | o,x::xs,ys,h,k=>by
   refine ⟨h.1,RepAt.append (o:=o+1) h.2 ?_⟩
   rwa [show o+1+xs.length=o+(x::xs).length by simp; omega]
theorem RepRows.get {w : World} {c : Ctx} {esz b : Nat} : ∀ {o : Nat} {xs : List (List PV)} (i : Nat) (r : List PV),RepRows w c esz b o xs→xs[i]? = some r→r.length=esz∧RepAt w c b (o+i * esz) r
 | _,[],i,x,_,hx=>by simp at hx
 | o,y::ys,0,x,h,hx=>by
   simp at hx
   subst hx
   exact ⟨h.1,by simpa using h.2.1⟩
 | o,y::ys,i+1,x,h,hx=>by
   have:=RepRows.get (o:=o+esz) i x h.2.2 (by simpa using hx)
   rwa [show o+esz+i * esz=o+(i+1) * esz by rw [Nat.add_mul]; omega] at this
theorem RepRows.drop {w : World} {c : Ctx} {esz b : Nat} : ∀ {o : Nat} {xs : List (List PV)} (n : Nat),RepRows w c esz b o xs→RepRows w c esz b (o+n * esz) (xs.drop n)
 | _,[],n,_=>by simp [RepRows]
 | o,_::_,0,h=>by simpa using h
 | o,y::ys,n+1,h=>by
   have:=RepRows.drop (o:=o+esz) n h.2.2
   rw [show o+esz+n * esz=o+(n+1) * esz by rw [Nat.add_mul]; omega] at this
   simpa using this
theorem RepRows.take {w : World} {c : Ctx} {esz b : Nat} : ∀ {o : Nat} {xs : List (List PV)} (n : Nat),RepRows w c esz b o xs→RepRows w c esz b o (xs.take n)
 | _,[],n,_=>by simp [RepRows]
 | o,_::_,0,h=>by simp [RepRows]
 | o,y::ys,n+1,h=>by simpa [RepRows] using ⟨h.1,h.2.1,RepRows.take (o:=o+esz) n h.2.2⟩
theorem RepRows.append {w : World} {c : Ctx} {esz b : Nat} : ∀ {o : Nat} {xs ys : List (List PV)},RepRows w c esz b o xs→RepRows w c esz b (o+xs.length * esz) ys→RepRows w c esz b o (xs++ys)
 | _,[],_,_,k=>by simpa using k
 | o,x::xs,ys,h,k=>by
   refine ⟨h.1,h.2.1,RepRows.append (o:=o+esz) h.2.2 ?_⟩
   rwa [show o+esz+xs.length * esz=o+(x::xs).length * esz by simp [Nat.add_mul]; omega]
end Go.Proofs.YtbdogkmdanmojaaGreatDoor.Pv
namespace Go.Proofs.YtbdogkmdanmojaaGreatDoor.Pv
open Go
inductive MO where
 | t (n : Nat)
 | k (x : PV)
 deriving Inhabited
inductive MI where
 | mv (x : MO)
 | pick (c a b : MO)
 | alloc (z : List PV)
 | box (x : MO)
 | build (z : List PV) (parts : List (Nat × Nat × MO))
 | bslice (esz : Nat) (z : List PV) (n : Nat) (parts : List (Nat × MO))
 | load (a : MO) (n : Nat) (ag : Bool)
 | store (a x : MO) (n : Nat)
 | nilck (x : MO)
 | bin (op : BinOp) (cls : Nat) (x y : MO)
 | un (op : UnOp) (x : MO)
 | conv (k : IntKind) (x : MO)
 | faddr (a : MO) (off : Nat)
 | field (x : MO) (off n : Nat) (ag : Bool)
 | iaddr (x i : MO) (esz : Nat)
 | sidx (x i : MO)
 | aidx (x i : MO) (len esz : Nat) (ag : Bool)
 | slc (x : MO) (esz : Nat) (lo hi mx : Option MO)
 | sslc (x : MO) (lo hi : Option MO)
 | ext (x : MO) (i : Nat)
 | len (x : MO)
 | slen (x : MO)
 | app (s x : MO) (esz : Nat)
 | mkfn (f : FuncId) (first caps : List MO)
 | mkif (t : TypeId) (x : MO)
 | call (f : FuncId) (args : List MO)
 | dcall (f : MO) (args : List MO)
 | minmax (mx : Bool) (x y : MO)
 | nilcmp (ne : Bool) (x : MO)
 | cap (x : MO)
 | mksl (esz : Nat) (z : List PV) (l c : MO)
 | appz (s n : MO) (esz : Nat) (z : List PV)
 | b2s (x : MO)
 | s2b (x : MO)
 | iaddrp (x i : MO) (len esz : Nat)
 | clr (x : MO) (esz : Nat)
 | mmk (t : TypeId)
 | mset (t : TypeId) (m k x : MO)
 | look (m k : MO)
 | bad
 deriving Inhabited
structure MOp where
 dst : Option Nat
 i : MI
 g : Option (Nat × Bool):=none
 soft : Bool:=false
 deriving Inhabited
structure HE where
 esz : Nat
 xs : List (List PV)
 fz : Bool:=false
 bx : Bool:=false
 deriving Inhabited
structure St where
 s : List (Nat × PV)
 h : List (Key × Option HE)
def lk : Nat→List (Nat × PV)→PV
 | _,[]=>.undef
 | n,(m,x)::l=>if n=m then x else lk n l
def hk : Key→List (Key × Option HE)→Option HE
 | _,[]=>none
 | k,(j,e)::l=>if k=j then e else hk k l
def St.get (st : St) : MO→PV
 | .t n=>lk n st.s
 | .k x=>x
def strip : PV→PV
 | .opt _ x=>x
 | x=>x
def cells : PV→List PV
 | .agg cs=>cs
 | x=>[x]
def mk (ag : Bool) (n : Nat) (cs : List PV) : PV:=if ag then .agg (cs.take n) else cs.headD .undef
def splice (row : List PV) (off : Nat) (cs : List PV) : List PV:=row.take off++cs++row.drop (off+cs.length)
def isOne : PV→Bool
 | .undef | .tup _ | .opt _ _ | .raw _ | .mapf _ | .agg _=>false
 | _=>true
def storable : PV→Bool
 | .agg _=>true
 | x=>isOne x
mutual
def reify0 (hl : Key→Option HE) : PV→PV
 | .own g esz off len _=>match hl g with | some e=>.vec esz false ((e.xs.drop off).take len) | none=>.undef
 | .ptr _ _ _ _=>.undef
 | .vec e _ xs=>.vec e false xs
 | .agg cs=>.agg (reify0L hl cs)
 | .tup cs=>.tup (reify0L hl cs)
 | .fn f a b=>.fn f (reify0L hl a) (reify0L hl b)
 | .iface t x=>.iface t (reify0 hl x)
 | .opt _ _=>.undef
 | x=>x
def reify0L (hl : Key→Option HE) : List PV→List PV
 | []=>[]
 | x::xs=>reify0 hl x::reify0L hl xs
end
mutual
def reify (hl : Key→Option HE) : PV→PV
 | .own g esz off len _=>match hl g with | some e=>.vec esz false ((e.xs.drop off).take len) | none=>.undef
 | .ptr g _ i off=>match hl g with | some e=>.ref (reify0L hl ((e.xs.getD i []).drop off)) | none=>.undef
 | .vec e _ xs=>.vec e false xs
 | .agg cs=>.agg (reifyL hl cs)
 | .tup cs=>.tup (reifyL hl cs)
 | .fn f a b=>.fn f (reifyL hl a) (reifyL hl b)
 | .iface t x=>.iface t (reify hl x)
 | .opt _ _=>.undef
 | x=>x
def reifyL (hl : Key→Option HE) : List PV→List PV
 | []=>[]
 | x::xs=>reify hl x::reifyL hl xs
end
mutual
def ok0 (hl : Key→Option HE) : PV→Prop
 | .own g _ off len _=>match hl g with | some e=>e.bx=false∧off+len≤e.xs.length | none=>False
 | .agg cs=>ok0L hl cs
 | .tup cs=>ok0L hl cs
 | .fn _ a b=>ok0L hl a∧ok0L hl b
 | .iface _ x=>ok0 hl x
 | _=>True
def ok0L (hl : Key→Option HE) : List PV→Prop
 | []=>True
 | x::xs=>ok0 hl x∧ok0L hl xs
end
mutual
def okV (hl : Key→Option HE) : PV→Prop
 | .own g _ off len _=>match hl g with | some e=>e.bx=false∧off+len≤e.xs.length | none=>False
 | .ptr g _ i off=>match hl g with | some e=>i < e.xs.length∧ok0L hl ((e.xs.getD i []).drop off) | none=>False
 | .agg cs=>okL hl cs
 | .tup cs=>okL hl cs
 | .fn _ a b=>okL hl a∧okL hl b
 | .iface _ x=>okV hl x
 | _=>True
def okL (hl : Key→Option HE) : List PV→Prop
 | []=>True
 | x::xs=>okV hl x∧okL hl xs
end
mutual
def keys0 : PV→List Key
 | .own g _ _ _ _=>[g]
 | .agg cs=>keys0L cs
 | .tup cs=>keys0L cs
 | .fn _ a b=>keys0L a++keys0L b
 | .iface _ x=>keys0 x
 | _=>[]
def keys0L : List PV→List Key
 | []=>[]
 | x::xs=>keys0 x++keys0L xs
end
mutual
def keysOf (hl : Key→Option HE) : PV→List Key
 | .own g _ _ _ _=>[g]
 | .ptr g _ i off=>g::(match hl g with | some e=>keys0L ((e.xs.getD i []).drop off) | none=>[])
 | .agg cs=>keysL hl cs
 | .tup cs=>keysL hl cs
 | .fn _ a b=>keysL hl a++keysL hl b
 | .iface _ x=>keysOf hl x
 | _=>[]
def keysL (hl : Key→Option HE) : List PV→List Key
 | []=>[]
 | x::xs=>keysOf hl x++keysL hl xs
end
mutual
def scalar : PV→Bool
 | .bool _ | .int _ _ | .str _ | .nilp | .nilf | .nili=>true
 | .tup cs=>scalarL cs
 | .agg cs=>scalarL cs
 | _=>false
def scalarL : List PV→Bool
 | []=>true
 | x::xs=>scalar x&&scalarL xs
end
def tagsOf (ks : List Key) : List Nat:=ks.map (·.1)
def freezeAll (hl : Key→Option HE) (ks : List Key) : List (Key × Option HE):=ks.map fun k=>(k,(hl k).map fun e=>{ e with fz:=true })
structure Out where
 pre : Prop
 rd : List Nat
 r : PV
 hu : List (Key × Option HE)
def fillP : List PV→List (Nat × Nat × PV)→List PV
 | z,[]=>z
 | z,(off,_,x)::ps=>fillP (splice z off (cells x)) ps
def fillOk : Nat→List (Nat × Nat × PV)→Prop
 | _,[]=>True
 | n,(off,sz,x)::ps=>((cells x).length=sz∧off+sz≤n∧storable x=true)∧fillOk n ps
def fillR : List (List PV)→List (Nat × PV)→List (List PV)
 | z,[]=>z
 | z,(i,x)::ps=>fillR (z.set i (cells x)) ps
def fillROk (esz : Nat) : Nat→List (Nat × PV)→Prop
 | _,[]=>True
 | n,(i,x)::ps=>((cells x).length=esz∧i < n∧storable x=true)∧fillROk esz n ps
def rowsOf (hl : Key→Option HE) : PV→Option (Prop × Nat × List Nat × List (List PV))
 | .vec esz _ xs=>some (True,esz,[],xs)
 | .own g esz off len _=>match hl g with
   | some e=>some (e.bx=false∧off+len≤e.xs.length,esz,[g.1],(e.xs.drop off).take len)
   | none=>none
 | .str s=>some (True,1,[],s.data.toList.map fun b=>[.int .u8 b.toNat])
 | _=>none
def nilV (full : Bool) (xs : List (List PV)) : Bool:=full&&xs.isEmpty
def rowsBytes : List (List PV)→Option (List UInt8)
 | []=>some []
 | [.int .u8 n]::rs=>(rowsBytes rs).map (UInt8.ofNat n.toNat::·)
 | _=>none
def strLt (x y : ByteArray) : Bool:=Op.bytesLess x.data.toList y.data.toList
def strEq (x y : ByteArray) : Bool:=x.data.toList == y.data.toList
def lookF (s : ByteArray) : List (ByteArray × Nat)→PV
 | []=>.tup [.nilf,.bool false]
 | (k,f)::es=>if strEq k s then .tup [.fn f [] [],.bool true] else lookF s es
def binSem (op : BinOp) (cls : Nat) : PV→PV→Option (Prop × PV)
 | .int k a,.int k' b =>
   match op with
   | .shl=>some (0≤b,.int k (k.wrap (a * 2 ^ (min b.toNat k.bits))))
   | .shr=>some (0≤b,.int k (a.fdiv (2 ^ (min b.toNat k.bits))))
   | _=>if k ≠ k' then none else match op with
     | .add=>some (True,.int k (k.wrap (a+b)))
     | .sub=>some (True,.int k (k.wrap (a - b)))
     | .mul=>some (True,.int k (k.wrap (a * b)))
     | .quo=>some (b ≠ 0,.int k (k.wrap (a.tdiv b)))
     | .rem=>some (b ≠ 0,.int k (a.tmod b))
     | .and=>some (True,.int k (k.wrap (BitVec.ofInt k.bits a &&& BitVec.ofInt k.bits b).toNat))
     | .or=>some (True,.int k (k.wrap (BitVec.ofInt k.bits a ||| BitVec.ofInt k.bits b).toNat))
     | .xor=>some (True,.int k (k.wrap (BitVec.ofInt k.bits a ^^^ BitVec.ofInt k.bits b).toNat))
     | .eql=>some (True,.bool (a == b))
     | .neq=>some (True,.bool (a != b))
     | .lss=>some (True,.bool (decide (a < b)))
     | .leq=>some (True,.bool (decide (a≤b)))
     | .gtr=>some (True,.bool (decide (a > b)))
     | .geq=>some (True,.bool (decide (a ≥ b)))
     | _=>none
 | .str a,.str b =>
   match op with
   | .add=>some (a.size+b.size≤LIM,.str (a++b))
   | .eql=>some (True,.bool (strEq a b))
   | .neq=>some (True,.bool (!strEq a b))
   | .lss=>some (True,.bool (strLt a b))
   | .leq=>some (True,.bool (strLt a b||strEq a b))
   | .gtr=>some (True,.bool (!(strLt a b||strEq a b)))
   | .geq=>some (True,.bool (!strLt a b))
   | _=>none
 | .bool a,.bool b =>
   if cls=1 then match op with
   | .eql=>some (True,.bool (a == b))
   | .neq=>some (True,.bool (!(a == b)))
   | _=>none else none
 | _,_=>none
def okOpt (cb want : Bool) : PV→Prop
 | .opt b' _=>cb=want→b'=true
 | _=>True
def isRun : PV→Prop
 | .opt b _=>b=true
 | _=>True
def natOf : PV→Option Int
 | .int _ n=>some n
 | _=>none
def mxOf (get : MO→PV) : Option MO→Option (Option Int)
 | none=>some none
 | some m=>(natOf (get m)).map some
def bounds (len : Nat) (lo hi : Option PV) : Option (Int × Int) :=
 match (match lo with | none=>some 0 | some x=>natOf x),(match hi with | none=>some (len : Int) | some x=>natOf x) with
 | some l,some h=>some (l,h)
 | _,_=>none
def opSem (key : Key) (get : MO→PV) (hl : Key→Option HE) : MI→Option Out
 | .mv x=>some ⟨True,[],get x,[]⟩
 | .pick c a b=>match strip (get c) with
   | .bool cb =>
     some ⟨isRun (get c)∧okOpt cb true (get a)∧okOpt cb false (get b),[],(match strip (get a),strip (get b) with | .bool p,.bool q=>.bool (cond cb p q) | .int k m,.int k' n=>if k=k' then .int k (cond cb m n) else cond cb (.int k m) (.int k' n) | x,y=>cond cb x y),[]⟩
   | _=>none
 | .alloc z=>some ⟨True,[],.ptr key z.length 0 0,[(key,some ⟨z.length,[z],false,true⟩)]⟩
 | .box x=>some ⟨storable (get x)=true,[],.ptr key (cells (get x)).length 0 0,[(key,some ⟨(cells (get x)).length,[cells (get x)],false,true⟩)]⟩
 | .build z ps=>let ps':=ps.map fun p=>(p.1,p.2.1,get p.2.2); some ⟨fillOk z.length ps',[],.agg (fillP z ps'),[]⟩
 | .bslice esz z n ps=>some ⟨fillROk esz n (ps.map fun p=>(p.1,reify hl (get p.2)))∧okL hl (ps.map fun p=>get p.2)∧z.length=esz∧0 < esz∧n≤1024,tagsOf (keysL hl (ps.map fun p=>get p.2)),.own key esz 0 n true,
     (key,some ⟨esz,fillR (List.replicate n (reify0L (fun _=>none) z)) (ps.map fun p=>(p.1,reify hl (get p.2))),false,false⟩)::freezeAll hl (keysL hl (ps.map fun p=>get p.2))⟩
 | .load a n ag=>match get a with
   | .ref cs=>some ⟨n≤cs.length∧(ag=false→n=1),[],mk ag n cs,[]⟩
   | .ptr g _ i off=>match hl g with
     | some e=>some ⟨i < e.xs.length∧off+n≤(e.xs.getD i []).length∧(ag=false→n=1),[g.1],mk ag n ((e.xs.getD i []).drop off),[]⟩
     | none=>none
   | _=>none
 | .store a x n=>match get a with
   | .ptr g esz i off=>match hl g with
     | some e=>if e.fz then none else
       if e.bx then some ⟨i < e.xs.length∧off+n≤(e.xs.getD i []).length∧(cells (get x)).length=n∧storable (get x)=true,[g.1],.undef,[(g,some { e with xs:=e.xs.set i (splice (e.xs.getD i []) off (cells (get x))) })]⟩
       else some ⟨i < e.xs.length∧off+n≤(e.xs.getD i []).length∧(cells (reify hl (get x))).length=n∧storable (reify hl (get x))=true∧okV hl (get x)∧(keysOf hl (get x)).contains g=false,g.1::tagsOf (keysOf hl (get x)),.undef,
        (g,some { e with xs:=e.xs.set i (splice (e.xs.getD i []) off (cells (reify hl (get x)))) })::freezeAll hl (keysOf hl (get x))⟩
     | none=>none
   | _=>none
 | .nilck x=>match get x with
   | .ref cs=>some ⟨True,[],.ref cs,[]⟩
   | .ptr g esz i off=>some ⟨True,[],.ptr g esz i off,[]⟩
   | .fn f a b=>some ⟨True,[],.fn f a b,[]⟩
   | _=>none
 | .bin op cls x y=>match binSem op cls (get x) (get y) with
   | some (p,r)=>some ⟨p,[],r,[]⟩
   | none=>none
 | .un op x=>match op,get x with
   | .not,.bool b=>some ⟨True,[],.bool (!b),[]⟩
   | .neg,.int k n=>some ⟨True,[],.int k (k.wrap (0 - n)),[]⟩
   | _,_=>none
 | .conv k x=>match get x with
   | .int _ n=>some ⟨True,[],.int k (k.wrap n),[]⟩
   | _=>none
 | .faddr a off=>match get a with
   | .ref cs=>some ⟨True,[],.ref (cs.drop off),[]⟩
   | .ptr g esz i o=>some ⟨True,[],.ptr g esz i (o+off),[]⟩
   | _=>none
 | .field x off n ag=>match get x with
   | .agg cs=>some ⟨off+n≤cs.length∧(ag=false→n=1),[],mk ag n (cs.drop off),[]⟩
   | _=>none
 | .iaddr x i esz=>match get x,get i with
   | .vec esz' _ xs,.int _ n=>if esz'=esz then some ⟨0≤n∧n < xs.length,[],.ref (xs.getD n.toNat []),[]⟩ else none
   | .own g esz' off len _,.int _ n=>if esz'=esz then some ⟨0≤n∧n < len,[],.ptr g esz (off+n.toNat) 0,[]⟩ else none
   | _,_=>none
 | .sidx x i=>match get x,get i with
   | .str s,.int _ n=>some ⟨0≤n∧n < s.size,[],.int .u8 ((s.data.getD n.toNat 0).toNat),[]⟩
   | _,_=>none
 | .aidx x i len esz ag=>match get x,get i with
   | .agg cs,.int _ n=>some ⟨0≤n∧n < len∧cs.length=len * esz∧(ag=false→esz=1),[],mk ag esz (cs.drop (n.toNat * esz)),[]⟩
   | _,_=>none
 | .slc x esz lo hi mx=>match get x with
   | .vec esz' full xs=>match bounds xs.length (lo.map get) (hi.map get),mxOf get mx with
     | some (l,h),some none=>some ⟨(xs=[]∨esz'=esz)∧0≤l∧l≤h∧h≤xs.length,[],.vec esz' (full&&decide (h=xs.length)) ((xs.drop l.toNat).take (h.toNat - l.toNat)),[]⟩
     | some (l,h),some (some m)=>some ⟨(xs=[]∨esz'=esz)∧0≤l∧l≤h∧h≤m∧m≤xs.length,[],.vec esz' (decide (h=m)) ((xs.drop l.toNat).take (h.toNat - l.toNat)),[]⟩
     | _,_=>none
   | .own g esz' off len full=>if esz'=esz then match bounds len (lo.map get) (hi.map get),mxOf get mx with
     | some (l,h),some none=>some ⟨0≤l∧l≤h∧h≤len,[],.own g esz (off+l.toNat) (h.toNat - l.toNat) (full&&decide (h=len)),[]⟩
     | some (l,h),some (some m)=>some ⟨0≤l∧l≤h∧h≤m∧m≤len,[],.own g esz (off+l.toNat) (h.toNat - l.toNat) (decide (h=m)),[]⟩
     | _,_=>none
     else none
   | _=>none
 | .sslc x lo hi=>match get x with
   | .str s=>match bounds s.size (lo.map get) (hi.map get) with
     | some (l,h)=>some ⟨0≤l∧l≤h∧h≤s.size,[],.str (s.extract l.toNat h.toNat),[]⟩
     | none=>none
   | _=>none
 | .ext x i=>match get x with
   | .tup vs=>some ⟨i < vs.length,[],vs.getD i .undef,[]⟩
   | _=>none
 | .len x=>match get x with
   | .vec _ _ xs=>some ⟨True,[],.int .i64 xs.length,[]⟩
   | .own _ _ _ len _=>some ⟨True,[],.int .i64 len,[]⟩
   | _=>none
 | .slen x=>match get x with
   | .str s=>some ⟨True,[],.int .i64 s.size,[]⟩
   | _=>none
 | .app s x esz=>match rowsOf hl (get x) with
   | some (po,xe,rd,cx)=>match get s with
     | .vec esz' full xs=>if nilV full xs&&esz' == esz then some ⟨po∧(cx=[]∨xe=esz)∧0 < esz∧cx.length≤68719476736,rd,.own key esz 0 cx.length false,[(key,some ⟨esz,cx,false,false⟩)]⟩
       else if cx.isEmpty then some ⟨po,rd,.vec esz' full xs,[]⟩ else if full then some ⟨po∧0 < cx.length∧xe=esz∧(xs=[]∨esz'=esz)∧0 < esz∧xs.length+cx.length≤68719476736,rd,.own key esz 0 (xs.length+cx.length) false,[(key,some ⟨esz,xs++cx,false,false⟩)]⟩ else none
     | .own g esz' off len full=>match hl g with
       | some e=>if e.bx||esz' != esz then none else
         if e.fz then (if full&&!cx.isEmpty then some ⟨po∧xe=esz∧off+len≤e.xs.length∧len+cx.length≤68719476736,g.1::rd,.own key esz 0 (len+cx.length) false,[(key,some ⟨esz,(e.xs.drop off).take len++cx,false,false⟩)]⟩ else none) else
         some ⟨po∧(cx=[]∨xe=esz)∧off+len≤e.xs.length∧len+cx.length≤68719476736,g.1::rd,.own key esz 0 (len+cx.length) false,[(key,some ⟨esz,(e.xs.drop off).take len++cx,false,false⟩),(g,none)]⟩
       | none=>none
     | _=>none
   | none=>none
 | .mkfn f first caps=>some ⟨True,[],.fn f (first.map get) (caps.map get),[]⟩
 | .cap x=>match get x with
   | .vec _ true xs=>some ⟨True,[],.int .i64 xs.length,[]⟩
   | .own _ _ _ len true=>some ⟨True,[],.int .i64 len,[]⟩
   | _=>none
 | .appz s n esz z=>match get s,get n with
   | .vec _ true [],.int _ k=>some ⟨z.length=esz∧0 < esz∧1≤k∧k≤34359738368,[],.own key esz 0 k.toNat false,[(key,some ⟨esz,List.replicate k.toNat (reify0L (fun _=>none) z),false,false⟩)]⟩
   | _,_=>none
 | .s2b x=>match get x with
   | .str s=>some ⟨True,[],.own key 1 0 s.size false,[(key,some ⟨1,s.data.toList.map fun b=>[.int .u8 b.toNat],false,false⟩)]⟩
   | _=>none
 | .b2s x=>match get x with
   | .str _=>none
   | _=>match rowsOf hl (get x) with
     | some (po,_,rd,cx)=>match rowsBytes cx with
       | some bs=>some ⟨po∧cx.length≤LIM,rd,.str ⟨bs.toArray⟩,[]⟩
       | none=>none
     | none=>none
 | .iaddrp x i len esz=>match get x,get i with
   | .ref cs,.int _ n=>some ⟨0≤n∧n < len,[],.ref (cs.drop (n.toNat * esz)),[]⟩
   | .ptr g e j off,.int _ n=>some ⟨0≤n∧n < len,[],.ptr g e j (off+n.toNat * esz),[]⟩
   | _,_=>none
 | .mksl esz z l c=>match get l,get c with
   | .int _ n,.int _ m=>some ⟨z.length=esz∧0 < esz∧0≤n∧n≤m∧m≤34359738368,[],.own key esz 0 n.toNat (decide (n=m)),[(key,some ⟨esz,List.replicate n.toNat (reify0L (fun _=>none) z),false,false⟩)]⟩
   | _,_=>none
 | .clr x esz=>match get x with
   | .vec _ _ []=>some ⟨True,[],.undef,[]⟩
   | .own g esz' off len _=>match hl g with
     | some e=>if e.fz||e.bx||esz' != esz then none else some ⟨off+len≤e.xs.length,[g.1],.undef,[(g,some { e with xs:=e.xs.take off })]⟩
     | none=>none
   | _=>none
 | .mkif t x=>some ⟨True,[],.iface t (get x),[]⟩
 | .minmax mx x y=>match get x,get y with
   | .int k a,.int k' b=>if k=k' then some ⟨True,[],.int k (if mx then (if b > a then b else a) else (if b < a then b else a)),[]⟩ else none
   | _,_=>none
 | .look m k=>match get m,get k with
   | .mapf es,.str s=>some ⟨True,[],lookF s es,[]⟩
   | _,_=>none
 | .call _ _ | .dcall _ _ | .nilcmp _ _ | .mmk _ | .mset _ _ _ _ | .bad=>none
end Go.Proofs.YtbdogkmdanmojaaGreatDoor.Pv
namespace Go.Proofs.YtbdogkmdanmojaaGreatDoor.Pv
open Go
def szOf (P : Program) (t : TypeId) : Nat:=match P.info? t with | some i=>i.size | none=>0
def okT (P : Program) (t : TypeId) : Bool:=(P.info? t).isSome&&(P.underlying t).isSome
def aggOf (P : Program) (t : TypeId) : Bool:=match P.underlying t with | some (.struct _)=>true | some (.array _ _)=>true | _=>false
def zeroAt (P : Program) : Nat→TypeId→List PV
 | 0,_=>[]
 | d+1,t=>match P.underlying t with
   | some (.bool)=>[.bool false]
   | some (.int k)=>[.int k 0]
   | some (.string)=>[.str ByteArray.empty]
   | some (.slice e)=>[.vec (szOf P e) true []]
   | some (.pointer _)=>[.nilp]
   | some (.func _ _ _)=>[.nilf]
   | some (.interface _)=>[.nili]
   | some (.struct fs)=>(fs.toList.map fun f=>zeroAt P d f.type).flatten
   | some (.array n e)=>(List.replicate n (zeroAt P d e)).flatten
   | _=>[]
def fitsV : PV→Value→Bool
 | .bool b,.bool c=>b == c
 | .int k n,.int j m=>k == j&&n == m&&decide (k.min≤n)&&decide (n≤k.max)
 | .str s,.string u=>s.data == u.data&&decide (s.size≤LIM)
 | .vec _ _ [],.slice none 0 0=>true
 | .nilp,.pointer none=>true
 | .nilf,.nilFunc=>true
 | .nili,.nilIface=>true
 | _,_=>false
def fitsL : List PV→List Value→Bool
 | [],[]=>true
 | x::xs,v::vs=>fitsV x v&&fitsL xs vs
 | _,_=>false
def isAggV : Value→Bool
 | .agg _=>true
 | _=>false
def zeroPV (P : Program) (t : TypeId) : Option (List PV) :=
 match (P.info? t).bind (·.zero) with
 | some z=>if fitsL (zeroAt P 12 t) z.cells.toList&&(aggOf P t == isAggV z)&&decide ((zeroAt P 12 t).length=szOf P t) then some (zeroAt P 12 t) else none
 | none=>none
def utf8First : List Nat:=List.replicate 128 240++List.replicate 66 241++List.replicate 30 2++[19]++List.replicate 12 3++[35,3,3,52,4,4,4,68]++List.replicate 11 241
def utf8Accept : List Nat:=[128,191,160,191,128,159,144,191,128,143]++List.replicate 22 0
def gTab (P : Program) (g : Nat) : Option (List Nat):=match P.globals[g]? with
 | some gl=>if gl.name == "unicode/utf8.first" then some utf8First else if gl.name == "unicode/utf8.acceptRanges" then some utf8Accept else none
 | none=>none
def tabPV (cs : List Nat) : List PV:=cs.map fun (n : Nat)=>.int .u8 (n : Int)
def constPV (P : Program) (t : TypeId) : Value→Option PV
 | .bool b=>some (.bool b)
 | .int k n=>if k.min≤n∧n≤k.max then some (.int k n) else none
 | .string s=>if s.size≤LIM then some (.str s) else none
 | .pointer none=>some .nilp
 | .nilFunc=>some .nilf
 | .nilIface=>some .nili
 | .slice none 0 0=>some (.vec (match P.underlying t with | some (.slice e)=>szOf P e | _=>0) true [])
 | .agg vs=>match zeroPV P t with
   | some z=>if fitsL z vs.toList then some (.agg z) else none
   | none=>none
 | _=>none
def toO (P : Program) (nt : Nat) (t : TypeId) : Operand→Option MO
 | .tmp n=>if n < nt then some (.t n) else none
 | .const v=>(constPV P t v).map .k
 | .func f=>some (.k (.fn f [] []))
 | .global g=>(gTab P g).map fun cs=>.k (.ref (tabPV cs))
def toOs (P : Program) (nt : Nat) (ts : List TypeId) : List Operand→Option (List MO)
 | []=>some []
 | x::xs=>match toO P nt (ts.headD 0) x,toOs P nt ts.tail xs with
   | some y,some ys=>some (y::ys)
   | _,_=>none
def toOpt (P : Program) (nt : Nat) (t : TypeId) : Option Operand→Option (Option MO)
 | none=>some none
 | some x=>(toO P nt t x).map some
def toParts (P : Program) (nt : Nat) (fs : Array Field) : List (Nat × Operand)→Option (List (Nat × Nat × MO))
 | []=>some []
 | (i,x)::ps=>match fs[i]?,toParts P nt fs ps with
   | some f,some qs=>(toO P nt f.type x).map fun y=>(f.offset,szOf P f.type,y)::qs
   | _,_=>none
def toPartsA (P : Program) (nt : Nat) (e : TypeId) : List (Nat × Operand)→Option (List (Nat × Nat × MO))
 | []=>some []
 | (i,x)::ps=>match toPartsA P nt e ps with
   | some qs=>(toO P nt e x).map fun y=>(i * szOf P e,szOf P e,y)::qs
   | _=>none
def toPartsS (P : Program) (nt : Nat) (e : TypeId) : List (Nat × Operand)→Option (List (Nat × MO))
 | []=>some []
 | (i,x)::ps=>match toPartsS P nt e ps with
   | some qs=>(toO P nt e x).map fun y=>(i,y)::qs
   | _=>none
def binCls (P : Program) (t : TypeId) : Nat:=match P.underlying t with | some (.bool)=>1 | _=>0
def zeroFits (i : TypeInfo) : Bool:=match i.zero with
 | some z=>decide (z.cells.size=i.size)
 | none=>false
def callable (P : Program) (f : FuncId) : Bool:=match P.funcs[f]? with
 | some fn=>fn.body.isSome&&fn.name != "runtime.NumGoroutine"
 | none=>false
def isNilC : Operand→Bool
 | .const (.slice none 0 0)=>true
 | _=>false
def isNilCmp (P : Program) (t : TypeId) (y : Operand) : Bool:=isNilC y&&(match P.underlying t with | some (.slice _)=>true | _=>false)
def toI (P : Program) (nt : Nat) (o : Oper) : Option MI :=
 match o.op with
 | .move x | .assign x=>(toO P nt o.type x).map .mv
 | .pick c a b=>match toO P nt 0 c,toO P nt o.type a,toO P nt o.type b with
   | some c,some a,some b=>some (.pick c a b)
   | _,_,_=>none
 | .alloc e=>(zeroPV P e).map .alloc
 | .box e x=>(toO P nt e x).map .box
 | .build t ps=>match zeroPV P t,P.underlying t with
   | some z,some (.struct fs)=>if fs.toList.all (fun f=>okT P f.type) then (toParts P nt fs ps.toList).map (.build z) else none
   | some z,some (.array _ e)=>if okT P e then (toPartsA P nt e ps.toList).map (.build z) else none
   | _,_=>none
 | .buildSlice t n ps=>match P.underlying t with
   | some (.slice e)=>match zeroPV P e,toPartsS P nt e ps.toList with
     | some z,some qs=>if n≤1024&&szOf P e≤1024&&okT P e then some (.bslice (szOf P e) z n qs) else none
     | _,_=>none
   | _=>none
 | .load t a=>if okT P t=false then none else (toO P nt 0 a).map fun a=>.load a (szOf P t) (aggOf P t)
 | .store t a x=>if okT P t=false then none else match toO P nt 0 a,toO P nt t x with
   | some a,some x=>some (.store a x (szOf P t))
   | _,_=>none
 | .nilCheck x=>(toO P nt 0 x).map .nilck
 | .binOp op t x y u=>if isNilCmp P t y then (match op with | .eql=>(toO P nt t x).map (.nilcmp false) | .neq=>(toO P nt t x).map (.nilcmp true) | _=>none) else match toO P nt t x,toO P nt u y with
   | some x,some y=>some (.bin op (binCls P t) x y)
   | _,_=>none
 | .unOp op _ x=>(toO P nt 0 x).map (.un op)
 | .convert s d x=>if (P.underlying s).isNone then none else match P.underlying d with
   | some (.int k)=>(toO P nt 0 x).map (.conv k)
   | some (.string)=>match P.underlying s with
     | some (.slice e)=>(match P.underlying e with
       | some (.int .u8)=>(toO P nt s x).map .b2s
       | _=>none)
     | _=>none
   | some (.slice e)=>match P.underlying s,P.underlying e with
     | some .string,some (.int .u8)=>(toO P nt s x).map .s2b
     | _,_=>none
   | some (.struct _)=>none
   | _=>none
 | .fieldAddr s a f=>match P.underlying s with
   | some (.struct fs)=>match fs[f]? with
     | some fd=>if okT P fd.type=false||szOf P fd.type=0 then none else (toO P nt 0 a).map fun a=>.faddr a fd.offset
     | none=>none
   | _=>none
 | .field s x f=>match P.underlying s with
   | some (.struct fs)=>match fs[f]? with
     | some fd=>if okT P fd.type=false then none else (toO P nt s x).map fun x=>.field x fd.offset (szOf P fd.type) (aggOf P fd.type)
     | none=>none
   | _=>none
 | .indexAddr t x i=>match P.underlying t with
   | some (.slice e)=>if okT P e=false then none else match toO P nt t x,toO P nt 3 i with
     | some x,some i=>some (.iaddr x i (szOf P e))
     | _,_=>none
   | some (.array n e)=>if okT P e=false then none else match toO P nt 0 x,toO P nt 3 i with
     | some x,some i=>some (.iaddrp x i n (szOf P e))
     | _,_=>none
   | _=>none
 | .index t x i=>match P.underlying t with
   | some (.string)=>match toO P nt t x,toO P nt 3 i with
     | some x,some i=>some (.sidx x i)
     | _,_=>none
   | some (.array n e)=>if okT P e=false then none else match toO P nt t x,toO P nt 3 i with
     | some x,some i=>some (.aidx x i n (szOf P e) (aggOf P e))
     | _,_=>none
   | _=>none
 | .slice t x lo hi mx=>match P.underlying t with
   | some (.slice e)=>if okT P e=false then none else match toO P nt t x,toOpt P nt 3 lo,toOpt P nt 3 hi,toOpt P nt 3 mx with
     | some x,some lo,some hi,some mx=>if mx.isSome&&hi.isNone then none else some (.slc x (szOf P e) lo hi mx)
     | _,_,_,_=>none
   | some (.string)=>match toO P nt t x,toOpt P nt 3 lo,toOpt P nt 3 hi with
     | some x,some lo,some hi=>if mx.isSome then none else some (.sslc x lo hi)
     | _,_,_=>none
   | _=>none
 | .extract x i=>(toO P nt 0 x).map fun x=>.ext x i
 | .makeFunc (.func f) first caps=>match toOs P nt [] first.toList,toOs P nt [] caps.toList with
   | some a,some b=>some (.mkfn f a b)
   | _,_=>none
 | .makeSlice t l c=>match P.underlying t with
   | some (.slice e)=>match zeroPV P e,toO P nt 3 l,toO P nt 3 c,P.info? e with
     | some z,some l,some c,some i=>if i.bytes≤2048&&0 < szOf P e then some (.mksl (szOf P e) z l c) else none
     | _,_,_,_=>none
   | _=>none
 | .makeInterface t x=>match P.underlying t with
   | some (.interface _)=>none
   | some _=>(toO P nt t x).map (.mkif t)
   | none=>none
 | .makeMap t r=>if r.isNone then some (.mmk t) else none
 | .lookup t m x c=>match P.underlying t with
   | some (.map kt et)=>match P.underlying kt,zeroPV P et with
     | some .string,some [.nilf]=>if c&&!aggOf P et then match toO P nt t m,toO P nt kt x with
       | some m,some k=>some (.look m k)
       | _,_=>none else none
     | _,_=>none
   | _=>none
 | .mapUpdate t m k x=>match toO P nt 0 m,toO P nt 0 k,toO P nt 0 x with
   | some m,some k,some x=>some (.mset t m k x)
   | _,_,_=>none
 | .call c=>match c.callee with
   | .value (.func f)=>if callable P f then (toOs P nt c.argTypes.toList c.args.toList).map (.call f) else none
   | .value (.tmp t)=>if t < nt then (toOs P nt c.argTypes.toList c.args.toList).map (.dcall (.t t)) else none
   | .builtin .len=>match c.argTypes.toList,c.args.toList with
     | [t],[x]=>match P.underlying t with
       | some (.slice _)=>(toO P nt t x).map .len
       | some (.string)=>(toO P nt t x).map .slen
       | _=>none
     | _,_=>none
   | .builtin .clear=>match c.argTypes.toList,c.args.toList with
     | [t],[x]=>match P.underlying t with
       | some (.slice e)=>match toO P nt t x,zeroPV P e with
         | some x,some _=>if o.dst.isNone&&0 < szOf P e then some (.clr x (szOf P e)) else none
         | _,_=>none
       | _=>none
     | _,_=>none
   | .builtin .cap=>match c.argTypes.toList,c.args.toList with
     | [t],[x]=>match P.underlying t with
       | some (.slice _)=>(toO P nt t x).map .cap
       | _=>none
     | _,_=>none
   | .builtin .append=>match c.argTypes.toList,c.args.toList with
     | [t,u],[s,x]=>match P.underlying t,P.underlying u with
       | some (.slice e),some (.slice _)=>match toO P nt t s,toO P nt u x,P.info? e with
         | some s,some x,some i=>if i.bytes≤2048&&0 < i.bytes&&zeroFits i then some (.app s x i.size) else none
         | _,_,_=>none
       | some (.slice e),some (.string)=>match toO P nt t s,toO P nt u x,P.info? e with
         | some s,some x,some i=>if i.bytes≤2048&&0 < i.bytes&&zeroFits i then some (.app s x i.size) else none
         | _,_,_=>none
       | some (.slice e),some (.int _)=>match toO P nt t s,toO P nt u x,zeroPV P e,P.info? e with
         | some s,some x,some z,some i=>if i.bytes≤2048 then some (.appz s x i.size z) else none
         | _,_,_,_=>none
       | _,_=>none
     | _,_=>none
   | .builtin .min=>match c.args.toList with
     | [x,y]=>match toO P nt 3 x,toO P nt 3 y with | some x,some y=>some (.minmax false x y) | _,_=>none
     | _=>none
   | .builtin .max=>match c.args.toList with
     | [x,y]=>match toO P nt 3 x,toO P nt 3 y with | some x,some y=>some (.minmax true x y) | _,_=>none
     | _=>none
   | _=>none
 | _=>none
def MI.hard : MI→Bool
 | .iaddr .. | .sidx .. | .aidx .. | .slc .. | .sslc .. | .call .. | .dcall .. | .app .. | .store .. | .alloc .. | .box .. | .bslice .. | .mksl .. | .appz .. | .s2b .. | .iaddrp .. | .clr .. | .mmk .. | .mset .. | .look .. | .bad=>true
 | _=>false
def toOp (P : Program) (nt : Nat) (ops : Array Oper) (soft : Bool) (o : Oper) : Option MOp :=
 if (match o.dst with | some d=>decide (d < nt) | none=>true)=false then none else match (match toI P nt o with | some i=>some i | none=>some .bad) with
 | none=>none
 | some i=>match o.guard with
   | none=>some { dst:=o.dst,i:=i }
   | some (j,want)=>match (ops[j]?).bind (·.dst) with
     | some t=>if t < nt then some { dst:=o.dst,i:=i,g:=some (t,want),soft:=soft } else none
     | none=>none
def toOps (P : Program) (nt : Nat) (ops : Array Oper) (soft : Bool) : List Oper→Option (List MOp)
 | []=>some []
 | o::os=>match toOp P nt ops soft o,toOps P nt ops soft os with
   | some m,some ms=>some (m::ms)
   | _,_=>none
def softR (P : Program) (nt : Nat) (ops : Array Oper) : Bool:=ops.all fun o=>o.guard.isNone||(match toI P nt o with | some i=>!i.hard | none=>false)
def MI.allocs : MI→Bool
 | .alloc _ | .box _ | .bslice _ _ _ _ | .app _ _ _ | .call _ _ | .dcall _ _ | .mksl _ _ _ _ | .appz _ _ _ _ | .s2b _=>true
 | _=>false
def MI.ops : MI→List MO
 | .mv x | .box x | .nilck x | .un _ x | .conv _ x | .faddr x _ | .field x _ _ _ | .ext x _ | .len x | .slen x | .cap x | .mkif _ x | .nilcmp _ x | .load x _ _=>[x]
 | .pick a b c=>[a,b,c]
 | .alloc _=>[]
 | .build _ ps=>ps.map fun p=>p.2.2
 | .bslice _ _ _ ps=>ps.map fun p=>p.2
 | .store a x _ | .bin _ _ a x | .iaddr a x _ | .sidx a x | .aidx a x _ _ _ | .app a x _ | .minmax _ a x=>[a,x]
 | .slc x _ a b c=>x::(a.toList++b.toList++c.toList)
 | .sslc x a b=>x::(a.toList++b.toList)
 | .mkfn _ fs cs=>fs++cs
 | .mksl _ _ a b=>[a,b]
 | .appz a b _ _ | .iaddrp a b _ _=>[a,b]
 | .b2s x | .s2b x | .clr x _=>[x]
 | .mmk _ | .bad=>[]
 | .mset _ m k x=>[m,k,x]
 | .look m k=>[m,k]
 | .call _ xs=>xs
 | .dcall f xs=>f::xs
def MOp.looks (m : MOp) : List Nat:=(m.i.ops.filterMap fun x=>match x with | .t n=>some n | .k _=>none)++(match m.g with | some (t,_)=>[t] | none=>[])
def apartM (x y : MOp) : Bool :=
 (match x.dst with | some d=>!y.looks.contains d | none=>true)&&(match y.dst with | some d=>!x.looks.contains d | none=>true)
def nodupB : List Nat→Bool
 | []=>true
 | x::xs=>!xs.contains x&&nodupB xs
inductive MC where
 | skip
 | reg (ms : List MOp)
 | draw (un : List (Nat × Nat)) (ms : List MOp)
 | seq (a b : MC)
 | cond (c : MO) (a b : MC)
 | block (id : Nat) (a : MC)
 | loop (a : MC)
 | exit (id : Nat)
 | ret
 | scope (a : MC)
 | label (l : Nat)
 | goto (l : Nat)
 | bad
 | cut (a : MC)
 deriving Inhabited
def MC.erase : MC→MC
 | .seq a b=>.seq a.erase b.erase
 | .cond c a b=>.cond c a.erase b.erase
 | .block id a=>.block id a.erase
 | .loop a=>.loop a.erase
 | .scope a=>.scope a.erase
 | .cut a=>a.erase
 | m=>m
def unordered (ops : Array Oper) : List (Nat × Nat) :=
 let b:=Region.before ops
 (List.range ops.size).flatMap fun j=>(List.range j).filterMap fun i=>if (b.getD j 0).testBit i then none else some (i,j)
def drawOk (ops : Array Oper) (ms : List MOp) : Bool :=
 ops.toList.zipIdx.all (fun p=>p.1.after.all fun e=>!Region.binds .any e||decide (e.on < p.2)) &&
 (unordered ops).all (fun p=>match ms[p.1]?,ms[p.2]? with | some x,some y=>apartM x y | _,_=>false) &&
 nodupB (ms.filterMap (·.dst))&&ms.all (fun m=>!m.i.allocs||m.dst.isSome)
def toMC (P : Program) (nt : Nat) : Code→Option MC
 | .skip=>some .skip
 | .region _ ops d=>match toOps P nt ops (softR P nt ops) ops.toList with
   | some ms=>if d then (if drawOk ops ms then some (.draw (unordered ops) ms) else none) else some (.reg ms)
   | none=>none
 | .seq a b=>match toMC P nt a,toMC P nt b with
   | some x,some y=>some (.seq x y)
   | _,_=>none
 | .cond c a b=>match toO P nt 0 c,toMC P nt a,toMC P nt b with
   | some c,some x,some y=>some (.cond c x y)
   | _,_,_=>none
 | .block id a=>(toMC P nt a).map (.block id)
 | .loop a=>(toMC P nt a).map .loop
 | .exit id=>some (.exit id)
 | .ret=>some .ret
 | .scope a=>(toMC P nt a).map .scope
 | .label l=>some (.label l)
 | .goto l=>some (.goto l)
 | _=>some .bad
end Go.Proofs.YtbdogkmdanmojaaGreatDoor.Pv
namespace Go.Proofs.YtbdogkmdanmojaaGreatDoor.Pv
open Go Go.RowKit
structure Bel (B : Nat) (w w' : World) : Prop where
 below : Below B w w'
 froz : ∀ a : Addr,a.block < B→w'.frozen? a=w.frozen? a
theorem Bel.refl (B : Nat) (w : World) : Bel B w w:=⟨Below.refl B w,fun _ _=>rfl⟩
theorem Bel.trans {B : Nat} {a b c : World} (h : Bel B a b) (k : Bel B b c) : Bel B a c:=⟨h.below.trans k.below,fun x hx=>(k.froz x hx).trans (h.froz x hx)⟩
theorem Bel.mono {B B' : Nat} {w w' : World} (h : Bel B w w') (hB : B'≤B) : Bel B' w w':=⟨h.below.mono hB,fun x hx=>h.froz x (Nat.lt_of_lt_of_le hx hB)⟩
theorem Bel.size {B : Nat} {w w' : World} (h : Bel B w w') : w.heap.size≤w'.heap.size:=h.below.size
theorem Bel.block {B : Nat} {w w' : World} (h : Bel B w w') : ∀ k,k < B→w'.heap[k]? = w.heap[k]? := h.below.block
theorem Bel.drew {B : Nat} {a w : World} (h : Bel B a w) : Bel B a w.drew:=⟨h.below.drew,fun x hx=>by rw [World.frozen?_drew]; exact h.froz x hx⟩
theorem Bel.alloc {B : Nat} {a w : World} (h : Bel B a w) (hB : B≤w.heap.size) (cs : Array Value) (t : TypeId) : Bel B a (w.alloc (.cells cs t)):=⟨h.below.alloc hB _,fun x hx=>by rw [frozen?_alloc_cells]; exact h.froz x hx⟩
theorem Bel.of {B : Nat} {w w' : World} (h : Below B w w') : Bel B w w':=⟨h,fun a ha=>by simp only [World.frozen?,h.block _ ha]⟩
def dctx (F : Nat→Prop) : Ctx:=⟨fun _=>none,fun _=>0,fun _=>False,F⟩
def octx (a : Option Addr) (esz : Nat) (F : Nat→Prop) : Ctx:=⟨fun _=>a,fun _=>esz,fun k=>k=(0,0),F⟩
def HRep (w : World) (c : Ctx) (k : Key) (e : HE) : Prop :=
 c.U k∧e.esz=c.es k∧match c.β k with
  | none=>e.xs=[]∧0 < e.esz
  | some ad=>ad.spot=none∧(∃ cs el fr,w.heap[ad.block]? = some (.cells cs el fr)∧ad.off+e.xs.length * e.esz≤cs.size∧∀ o,o < cs.size→¬ (fr.1≤o∧o < fr.2)) ∧
      RepRows w (if e.bx then c else c.d) e.esz ad.block ad.off e.xs∧(c.Fz ad.block↔e.fz=true)
def xTabs : List (String × IntKind × List Int):=[("internal/strconv.uint64pow10", .u64,Lib.pow10Tab)]
theorem tab_heap {P : Program} {w w' : World} {n : String} {k : IntKind} {zs : List Int} {g : Nat} (hg : P.globalNamed n=some g) (he : w'.heap[g]? = w.heap[g]?) (h : Lib.TabIs P w n k zs) : Lib.TabIs P w' n k zs:=by
 unfold Lib.TabIs World.var? at h ⊢
 rw [hg] at h ⊢
 simp only [Option.bind_some] at h ⊢
 rw [he]; exact h
def xInts : List String:=["internal/bytealg.MaxLen"]
def GOk (P : Program) (w : World) (F : Nat→Prop) : Prop :=
 (∀ g cs,gTab P g=some cs→g < w.heap.size∧F g∧∀ (j n : Nat),cs[j]? = some n→w.cell? ⟨g,j,none⟩=some (.int .u8 n)∧n≤255) ∧
  (∀ t ∈ xTabs,∀ g,P.globalNamed t.1=some g→g < w.heap.size∧F g∧Lib.TabIs P w t.1 t.2.1 t.2.2) ∧
  ∀ n ∈ xInts,∀ g,P.globalNamed n=some g→g < w.heap.size∧F g∧∃ m,w.cell? ⟨g,0,none⟩=some (.int .i64 m)
theorem GOk.mono {P : Program} {w w' : World} {F F' : Nat→Prop} (h : GOk P w F) {B : Nat} (hB : w.heap.size≤B) (hb : Bel B w w'∨w'=w) (hF : ∀ b,F b→F' b) : GOk P w' F':=⟨fun g cs hg=>by
 obtain ⟨h1,h2,h3⟩:=h.1 g cs hg
 rcases hb with hb | rfl
 ·refine ⟨Nat.lt_of_lt_of_le h1 hb.size,hF _ h2,fun j n hj=>?_⟩
  obtain ⟨h4,h5⟩:=h3 j n hj
  exact ⟨by rw [← h4]; exact cell_of_heap (hb.block _ (Nat.lt_of_lt_of_le h1 hB)) j,h5⟩
 ·exact ⟨h1,hF _ h2,h3⟩,fun t ht g hg=>by
 obtain ⟨h1,h2,h3⟩:=h.2.1 t ht g hg
 rcases hb with hb | rfl
 ·exact ⟨Nat.lt_of_lt_of_le h1 hb.size,hF _ h2,tab_heap hg (hb.block _ (Nat.lt_of_lt_of_le h1 hB)) h3⟩
 ·exact ⟨h1,hF _ h2,h3⟩,fun n hn g hg=>by
 obtain ⟨h1,h2,m,h3⟩:=h.2.2 n hn g hg
 rcases hb with hb | rfl
 ·exact ⟨Nat.lt_of_lt_of_le h1 hb.size,hF _ h2,m,by rw [← h3]; exact cell_of_heap (hb.block _ (Nat.lt_of_lt_of_le h1 hB)) 0⟩
 ·exact ⟨h1,hF _ h2,m,h3⟩⟩
def Ret (P : Program) (f : FuncId) (args : List PV) (r : PV) : Prop :=
 callable P f=true∧∀ (w : World) (F : Nat→Prop) (vs : List Value),GOk P w F→(∀ b,F b→b < w.heap.size)→RepL w (dctx F) args vs →
  Calls P f vs.toArray w fun e w'=>∃ v F',e=.returned v∧Bel w.heap.size w w'∧(∀ b,F b→F' b)∧(∀ b,F' b→b < w'.heap.size∧(F b∨w.heap.size≤b))∧RepV w' (dctx F') r v
def RetO (P : Program) (f : FuncId) (args : List PV) (esz : Nat) (xs : List (List PV)) : Prop :=
 callable P f=true∧∀ (w : World) (F : Nat→Prop) (vs : List Value),GOk P w F→(∀ b,F b→b < w.heap.size)→RepL w (dctx F) args vs →
  Calls P f vs.toArray w fun e w'=>∃ v F' a,e=.returned v∧Bel w.heap.size w w'∧(∀ b,F b→F' b)∧(∀ b,F' b→b < w'.heap.size∧(F b∨w.heap.size≤b)) ∧
   RepV w' (octx a esz F') (.own (0,0) esz 0 xs.length false) v∧HRep w' (octx a esz F') (0,0) ⟨esz,xs,false,false⟩∧∀ ad,a=some ad→w.heap.size≤ad.block
def callOut (hl : Key→Option HE) (args : List PV) (r : PV) : Out :=
 ⟨okL hl args,tagsOf (keysL hl args),r,if (keysL hl args).isEmpty||scalar r then [] else freezeAll hl (keysL hl args)⟩
def callOutO (hl : Key→Option HE) (args : List PV) (key : Key) (esz : Nat) (xs : List (List PV)) : Out :=
 ⟨okL hl args,tagsOf (keysL hl args),.own key esz 0 xs.length false,(key,some ⟨esz,xs,false,false⟩)::freezeAll hl (keysL hl args)⟩
def doCall (P : Program) (key : Key) (hl : Key→Option HE) (f : FuncId) (args : List PV) (K : Out→Prop) : Prop :=
 (∃ r,Ret P f (reifyL hl args) r∧K (callOut hl args r))∨(∃ esz xs,RetO P f (reifyL hl args) esz xs∧K (callOutO hl args key esz xs))
def doOp (P : Program) (key : Key) (get : MO→PV) (hl : Key→Option HE) (i : MI) (K : Out→Prop) : Prop :=
 match i with
 | .call f args=>doCall P key hl f (args.map get) K
 | .dcall f args=>match get f with
   | .fn fid first caps=>doCall P key hl fid (first++args.map get++caps) K
   | _=>False
 | .nilcmp ne x=>match get x with
   | .vec _ _ xs=>∀ b : Bool,(b=true→xs=[])→K ⟨True,[],.bool (b != ne),[]⟩
   | .own _ _ _ len _=>∀ b : Bool,(b=true→len=0)→K ⟨True,[],.bool (b != ne),[]⟩
   | _=>False
 | i=>match opSem key get hl i with
   | some o=>K o
   | none=>False
def St.put (st : St) (d : Option Nat) (o : Out) : St:=⟨match d with | some t=>(t,o.r)::st.s | none=>st.s,o.hu++st.h⟩
abbrev skipV : PV:=.opt false (.bool false)
def St.skip (st : St) (d : Option Nat) : St:=⟨match d with | some t=>(t,skipV)::st.s | none=>st.s,st.h⟩
def guardC : PV→Bool→Option Bool
 | .bool b,want=>some (if want then b else !b)
 | .opt b' (.bool b),want=>some (b'&&if want then b else !b)
 | _,_=>none
def optOk (gb : Bool) : PV→Prop
 | .opt b' _=>gb=true→b'=true
 | _=>True
def MI.isPick : MI→Bool
 | .pick _ _ _=>true
 | _=>false
def softGet (i : MI) (get : MO→PV) (x : MO) : PV:=if i.isPick then get x else strip (get x)
def optsOk (gb : Bool) (get : MO→PV) : List MO→Prop
 | []=>True
 | x::xs=>optOk gb (get x)∧optsOk gb get xs
def softOk (gb : Bool) (get : MO→PV) (i : MI) : Prop:=if i.isPick then True else optsOk gb get i.ops
def stepOp (P : Program) (m : MOp) (v : Nat) (st : St) (K : Out→St→Prop) : Prop :=
 match m.g with
 | none=>doOp P (m.dst.getD 0,v) st.get (fun k=>hk k st.h) m.i fun o=>o.pre∧K o (st.put m.dst o)
 | some (t,want)=>match guardC (lk t st.s) want with
   | none=>False
   | some gb =>
     if m.soft then
      doOp P (m.dst.getD 0,v) (softGet m.i st.get) (fun k=>hk k st.h) m.i fun o =>
       (gb=true→o.pre)∧softOk gb st.get m.i∧o.hu=[]∧K ⟨True,o.rd,.opt gb o.r,[]⟩ (st.put m.dst ⟨True,o.rd,.opt gb o.r,[]⟩)
     else (gb=true→doOp P (m.dst.getD 0,v) st.get (fun k=>hk k st.h) m.i fun o=>o.pre∧K o (st.put m.dst o)) ∧
      (gb=false→K ⟨True,[],skipV,[]⟩ (st.skip m.dst))
def tagsHu (hu : List (Key × Option HE)) : List Nat:=hu.map (·.1.1)
def apartL (a b : List Nat) : Bool:=a.all fun x=>!b.contains x
def okPairs (un : List (Nat × Nat)) (acc : List (List Nat × List Nat)) : Bool :=
 un.all fun p=>let x:=acc.getD p.1 ([],[]); let y:=acc.getD p.2 ([],[])
  apartL x.2 y.1&&apartL x.2 y.2&&apartL x.1 y.2
def runD (P : Program) (un : List (Nat × Nat)) (v : Nat) : List MOp→List (List Nat × List Nat)→St→(St→Prop)→Prop
 | [],acc,st,K=>okPairs un acc=true∧K st
 | m::ms,acc,st,K=>(match m.i with | .nilcmp _ _=>False | _=>True)∧stepOp P m v st fun o st'=>runD P un v ms (acc++[(o.rd,tagsHu o.hu)]) st' K
inductive Ex where
 | normal | exit (id : Nat) | goto (l : Nat) | ret
def Ex.to : Ex→Exit
 | .normal=>.normal | .exit id=>.exit id | .goto l=>.goto l | .ret=>.ret
structure Env where
 P : Program
 w0 : World
 F0 : Nat→Prop
 nt : Nat
 G : List (PV × Value)
 V : Nat
 glob : GOk P w0 F0
def dfsOf : List (PV × Value)→List Deferred
 | []=>[]
 | (.undef,.func fv args cap)::G=>{ target:=.fn fv cap,args:=args }::dfsOf G
 | _::G=>dfsOf G
def isU : PV→Bool
 | .undef=>true
 | _=>false
theorem dfs_none : ∀ (G : List (PV × Value)),(∀ p ∈ G,isU p.1=false)→dfsOf G=[]
 | [],_=>rfl
 | (x,v)::G,h=>by
   have h1:=h (x,v) (List.mem_cons_self ..)
   have h2:=dfs_none G fun p hp=>h p (List.mem_cons_of_mem _ hp)
   unfold dfsOf
   split
   ·rename_i heq; cases heq
   ·rename_i heq; cases heq; cases h1
   ·rename_i heq; cases heq; exact h2
structure Good (E : Env) (st : St) (c : Ctx) (a : Act) (w : World) : Prop where
 defers : a.defers=dfsOf E.G
 size : a.tmps.size=E.nt
 slot : ∀ t v,a.tmps[t]? = some v→RepV w c (lk t st.s) v
 heap : ∀ k e,hk k st.h=some e→HRep w c k e
 fresh : ∀ k e ad,hk k st.h=some e→c.β k=some ad→E.w0.heap.size≤ad.block∧ad.block < w.heap.size
 apart : ∀ k k' e e' ad ad',hk k st.h=some e→hk k' st.h=some e'→c.β k=some ad→c.β k'=some ad'→k ≠ k'→ad.block ≠ ad'.block
 fz : ∀ b,c.Fz b→b < w.heap.size∧(E.F0 b∨E.w0.heap.size≤b)
 le : ∀ b,E.F0 b→c.Fz b
 bnd : ∃ N,∀ k,c.U k→k.2 < N
 below : Bel E.w0.heap.size E.w0 w
 ghost : ∀ p ∈ E.G,RepV w c p.1 p.2
def Rel (E : Env) (st : St) (a : Act) (w : World) : Prop:=∃ c,Good E st c a w
def InlCall (E : Env) (f : FuncId) (args : List PV) (d : Option Nat) (st : St) (K : St→Prop) : Prop :=
 callable E.P f=true∧∀ (a : Act) (c : Ctx) (w : World) (vs : List Value),Good E st c a w→RepL w c args vs →
  Calls E.P f vs.toArray w fun e w'=>∃ v,e=.returned v∧∃ st' c',K st'∧Good E st' c' (a.put d v) w'
def InlG (E : Env) (g : Option (Nat × Bool)) (f : FuncId) (args : List PV) (d : Option Nat) (st : St) (K : St→Prop) : Prop :=
 match g with
 | none=>InlCall E f args d st K
 | some (t,want)=>match guardC (lk t st.s) want with
   | some true=>InlCall E f args d st K
   | some false=>K (st.skip d)
   | none=>False
def Inl (E : Env) (m : MOp) (st : St) (K : St→Prop) : Prop :=
 match m.i with
 | .call f args=>InlG E m.g f (args.map st.get) m.dst st K
 | .dcall f args=>match st.get f with
   | .fn fid first caps=>InlG E m.g fid (first++args.map st.get++caps) m.dst st K
   | _=>False
 | _=>False
def run (E : Env) : List MOp→St→(St→Prop)→Prop
 | [],st,K=>K st
 | m::ms,st,K=>(if m.i.allocs then ∀ v,E.V≤v→stepOp E.P m v st fun _ st'=>run E ms st' K else stepOp E.P m 0 st fun _ st'=>run E ms st' K)∨Inl E m st fun st'=>run E ms st' K
def Goes (E : Env) (m : MC) (st : St) (Q : Ex→St→Prop) : Prop :=
 ∀ c,toMC E.P E.nt c=some m.erase→∀ a w,Rel E st a w→c.wp E.P (fun e a' w'=>∃ ex st',e=Ex.to ex∧Q ex st'∧Rel E st' a' w') a w
def exec (E : Env) : MC→St→(Ex→St→Prop)→Prop
 | .skip,st,Q=>Q .normal st
 | .reg ms,st,Q=>run E ms st (Q .normal)
 | .draw un ms,st,Q=>∀ v,E.V≤v→runD E.P un v ms [] st (Q .normal)
 | .seq a b,st,Q=>exec E a st fun e st'=>match e with | .normal=>exec E b st' Q | .exit i=>Q (.exit i) st' | .goto l=>Q (.goto l) st' | .ret=>Q .ret st'
 | .cond c a b,st,Q=>match st.get c with
   | .bool x=>(x=true→exec E a st Q)∧(x=false→exec E b st Q)
   | _=>False
 | .block id a,st,Q=>exec E a st fun e st'=>match e with | .exit j=>if j=id then Q .normal st' else Q (.exit j) st' | .normal=>Q .normal st' | .goto l=>Q (.goto l) st' | .ret=>Q .ret st'
 | .loop a,st,Q=>Goes E (.loop a) st Q
 | .exit id,st,Q=>Q (.exit id) st
 | .ret,st,Q=>Q .ret st
 | .scope a,st,Q=>Goes E (.scope a) st Q
 | .label _,st,Q=>Q .normal st
 | .goto l,st,Q=>Q (.goto l) st
 | .bad,_,_=>False
 | .cut a,st,Q=>Goes E a st Q
def St.init (args : List PV) : St:=⟨args.zipIdx.map fun p=>(p.2,p.1),[]⟩
inductive RV where
 | tmp (t : Nat)
 | cell (a t n : Nat) (ag : Bool)
def resOne (st : St) : RV→PV
 | .tmp t=>lk t st.s
 | .cell a _ n ag=>match lk a st.s with
   | .ptr g _ i off=>match hk g st.h with
     | some e=>mk ag n ((e.xs.getD i []).drop off)
     | none=>.undef
   | _=>.undef
def resAll (st : St) : List RV→PV
 | [x]=>resOne st x
 | xs=>.tup (xs.map (resOne st))
def resOk (st : St) : List RV→Prop
 | []=>True
 | .tmp _::rs=>resOk st rs
 | .cell a _ n ag::rs=>(match lk a st.s with
   | .ptr g _ i off=>match hk g st.h with
     | some e=>i < e.xs.length∧off+n≤(e.xs.getD i []).length∧(ag=false→n=1)
     | none=>False
   | _=>False)∧resOk st rs
def retIs (rs : List RV) (r : PV) : Ex→St→Prop
 | .normal,st | .ret,st=>resOk st rs∧okV (fun k=>hk k st.h) (resAll st rs)∧reify (fun k=>hk k st.h) (resAll st rs)=r
 | _,_=>False
def ownIs (hl : Key→Option HE) (esz : Nat) (xs : List (List PV)) : PV→Prop
 | .own g esz' off len _=>esz'=esz∧match hl g with
   | some e=>e.fz=false∧e.bx=false∧off+len≤e.xs.length∧(e.xs.drop off).take len=xs
   | none=>False
 | .vec esz' full ys=>esz'=esz∧full=true∧ys=[]∧xs=[]∧0 < esz
 | _=>False
def retOwn (rs : List RV) (esz : Nat) (xs : List (List PV)) : Ex→St→Prop
 | .normal,st | .ret,st=>resOk st rs∧ownIs (fun k=>hk k st.h) esz xs (resAll st rs)
 | _,_=>False
end Go.Proofs.YtbdogkmdanmojaaGreatDoor.Pv
namespace Go.Proofs.YtbdogkmdanmojaaGreatDoor.Pv
open Go Go.RowKit
structure HGood (E : Env) (h : List (Key × Option HE)) (c : Ctx) (w : World) : Prop where
 heap : ∀ k e,hk k h=some e→HRep w c k e
 fresh : ∀ k e ad,hk k h=some e→c.β k=some ad→E.w0.heap.size≤ad.block∧ad.block < w.heap.size
 apart : ∀ k k' e e' ad ad',hk k h=some e→hk k' h=some e'→c.β k=some ad→c.β k'=some ad'→k ≠ k'→ad.block ≠ ad'.block
 fz : ∀ b,c.Fz b→b < w.heap.size∧(E.F0 b∨E.w0.heap.size≤b)
 le : ∀ b,E.F0 b→c.Fz b
 bnd : ∃ N,∀ k,c.U k→k.2 < N
 below : Bel E.w0.heap.size E.w0 w
def Does (E : Env) (h : List (Key × Option HE)) (c : Ctx) (w : World) (ev : Operand→Value) (o : Oper) (key : Key) (out : Out) : Prop :=
 ∃ n v w' c',(execOp ev o).run E.P w=.ok n w'∧(n=.value v∨(n=.skip∧v=undef))∧HGood E (out.hu++h) c' w'∧RepV w' c' out.r v∧c.Le c'∧Mono c.Fz w w'∧∀ k,c'.U k→c.U k∨k=key
theorem Does.same {E : Env} {h : List (Key × Option HE)} {c : Ctx} {w : World} {ev : Operand→Value} {o : Oper} {key : Key} {out : Out} {v : Value}
 (hr : (execOp ev o).run E.P w=.ok (.value v) w) (hu : out.hu=[]) (hg : HGood E h c w) (hv : RepV w c out.r v) : Does E h c w ev o key out :=
 ⟨_,v,w,c,hr,.inl rfl,by rw [hu]; exact hg,hv,Ctx.Le.refl c,Mono.refl _ _,fun _ hk=>.inl hk⟩
def Opnd (E : Env) (c : Ctx) (w : World) (ev : Operand→Value) (get : MO→PV) (i : MI) : Prop :=
 ∀ t x m,toO E.P E.nt t x=some m→m ∈ i.ops→RepV w c (get m) (ev x)
theorem wrap_ok (k : IntKind) (n : Int) : k.min≤k.wrap n∧k.wrap n≤k.max:=wrap_within k n
theorem min_le_zero (k : IntKind) : k.min≤0:=by cases k <;> decide
theorem zero_le_max (k : IntKind) : 0≤k.max:=by cases k <;> decide
theorem tmod_ok (k : IntKind) (a b : Int) (h : k.min≤a∧a≤k.max) : k.min≤a.tmod b∧a.tmod b≤k.max:=by
 have h1:=min_le_zero k
 have h2:=zero_le_max k
 have h3 : (a.tmod b).natAbs≤a.natAbs:=by rw [Int.natAbs_tmod]; exact Nat.mod_le _ _
 rcases Int.le_total 0 a with ha | ha
 ·have:=Int.tmod_nonneg b ha
  omega
 ·have e : a.tmod b=-((-a).tmod b):=by simp [Int.neg_tmod]
  have:=Int.tmod_nonneg b (a:=-a) (by omega)
  omega
theorem fdiv_ok (k : IntKind) (a : Int) (n : Nat) (h : k.min≤a∧a≤k.max) : k.min≤a.fdiv (2 ^ n)∧a.fdiv (2 ^ n)≤k.max:=by
 have h1:=min_le_zero k
 have h2:=zero_le_max k
 have hp : (0 : Int) < 2 ^ n:=Int.pow_pos (by decide)
 rw [Int.fdiv_eq_ediv_of_nonneg _ (Int.le_of_lt hp)]
 rcases Int.le_total 0 a with ha | ha
 ·have:=Int.ediv_nonneg ha (Int.le_of_lt hp)
  have:=Int.ediv_le_self (2 ^ n) ha
  omega
 ·have h3 : a / 2 ^ n≤0:=Int.ediv_nonpos_of_nonpos_of_neg ha hp
  have h4 : a≤a / 2 ^ n:=by
   apply Int.le_ediv_of_mul_le hp
   have h5 : (1 : Int)≤2 ^ n:=hp
   have : a * 2 ^ n≤a * 1:=Int.mul_le_mul_of_nonpos_left ha h5
   omega
  omega
theorem info_okT {P : Program} {t : TypeId} (h : ¬ okT P t=false) : ∃ i d,P.info? t=some i∧P.underlying t=some d∧szOf P t=i.size:=by
 simp only [okT,Bool.not_eq_false,Bool.and_eq_true,Option.isSome_iff_exists] at h
 obtain ⟨⟨i,hi⟩,⟨d,hd⟩⟩:=h
 exact ⟨i,d,hi,hd,by simp [szOf,hi]⟩
theorem run_isAgg {P : Program} {t : TypeId} {d : TypeDesc} (hd : P.underlying t=some d) (w : World) : (isAgg t).run P w=.ok (aggOf P t) w:=by
 unfold isAgg aggOf
 simp only [Sem.run_bind,run_underlying hd,Result.andThen_ok,hd]
 cases d <;> rfl
theorem run_sizeOf {P : Program} {t : TypeId} {i : TypeInfo} (hi : P.info? t=some i) (w : World) : (sizeOf t).run P w=.ok i.size w:=by
 simp [sizeOf,typeInfo,hi]
theorem load_at {P : Program} {t : TypeId} {i : TypeInfo} {d : TypeDesc} (hi : P.info? t=some i) (hd : P.underlying t=some d) {w : World} {c : Ctx} {b o : Nat} {cs : List PV}
 (h : RepAt w c b o cs) (hn : i.size≤cs.length) (h1 : aggOf P t=false→i.size=1) :
 ∃ v,(loadVar t ⟨b,o,none⟩).run P w=.ok v w∧RepV w c (mk (aggOf P t) i.size cs) v∧(aggOf P t=false→v.oneCell'=true):=by
 unfold loadVar
 simp only [Sem.run_bind,run_isAgg hd,Result.andThen_ok]
 cases ha : aggOf P t with
 | true =>
   obtain ⟨vs,k1,k2,k3⟩:=RepAt.vals (RepAt.take i.size h)
   have hl : vs.length=i.size:=by rw [RepL.length k1]; simp; omega
   refine ⟨.agg vs.toArray,?_,?_,by simp⟩
   ·have:=run_loadCells_list (P:=P) w ⟨b,o,none⟩ vs (fun j v hj=>by rw [add_at]; exact k3 j v hj)
    simp [run_sizeOf hi,← hl,this]
   ·simp only [mk,if_true]
    exact ⟨vs.toArray,rfl,by simpa using k1,by simpa using k2⟩
 | false =>
   have hs:=h1 ha
   match cs,h,hn with
   | [],_,hn=>simp [hs] at hn
   | x::xs,h,_ =>
     obtain ⟨⟨v,e,e1,e2⟩,_⟩:=h
     exact ⟨v,by simp [e],by simpa [mk] using e2,fun _=>e1⟩
theorem RepV.und {w : World} {c : Ctx} {x : PV} {v : Value} (h : RepV w c.d x v) : RepV w c x v:=RepV.mono x v (Mono.refl _ _) (Ctx.d_le c) h
theorem RepL.und {w : World} {c : Ctx} {x : List PV} {v : List Value} (h : RepL w c.d x v) : RepL w c x v:=RepL.mono x v (Mono.refl _ _) (Ctx.d_le c) h
theorem RepAt.und {w : World} {c : Ctx} {b o : Nat} {x : List PV} (h : RepAt w c.d b o x) : RepAt w c b o x:=RepAt.mono b rfl o x (Mono.refl _ _) (Ctx.d_le c) h
theorem RepRows.und {w : World} {c : Ctx} {n b o : Nat} {x : List (List PV)} (h : RepRows w c.d n b o x) : RepRows w c n b o x:=RepRows.mono n b rfl o x (Mono.refl _ _) (Ctx.d_le c) h
theorem RepRows.und' {w : World} {c : Ctx} {n b o : Nat} {x : List (List PV)} {q : Bool} (h : RepRows w (if q then c else c.d) n b o x) : RepRows w c n b o x:=by
 cases q
 ·exact RepRows.und (by simpa using h)
 ·simpa using h
theorem HRep.block {w : World} {c : Ctx} {k : Key} {e : HE} (h : HRep w c k e) (hx : 0 < e.xs.length) : ∃ ad,c.β k=some ad∧ad.spot=none ∧
 (∃ cs el fr,w.heap[ad.block]? = some (.cells cs el fr)∧ad.off+e.xs.length * e.esz≤cs.size∧∀ o,o < cs.size→¬ (fr.1≤o∧o < fr.2)) ∧
  RepRows w (if e.bx then c else c.d) e.esz ad.block ad.off e.xs∧(c.Fz ad.block↔e.fz=true):=by
 obtain ⟨_,_,h⟩:=h
 cases hb : c.β k with
 | none=>rw [hb] at h; simp [h.1] at hx
 | some ad=>rw [hb] at h; exact ⟨ad,rfl,h⟩
section
variable {E : Env} {h : List (Key × Option HE)} {c : Ctx} {w : World} {ev : Operand→Value} {get : MO→PV} {o : Oper} {i : MI} {key : Key} {out : Out}
theorem does_mv (x : Operand) (ho : o.op=.move x∨o.op=.assign x) (hi : toI E.P E.nt o=some i) (hg : HGood E h c w) (hop : Opnd E c w ev get i)
 (hs : opSem key get (fun k=>hk k h) i=some out) (hp : out.pre) : Does E h c w ev o key out:=by
 have hi' : (toO E.P E.nt o.type x).map MI.mv=some i:=by rcases ho with ho | ho <;> simpa [toI,ho] using hi
 obtain ⟨m,hm,rfl⟩:=Option.map_eq_some_iff.1 hi'
 simp only [opSem,Option.some.injEq] at hs
 subst hs
 refine Does.same (v:=ev x) ?_ rfl hg (hop _ x m hm (by simp [MI.ops]))
 rcases ho with ho | ho <;> simp [execOp,ho]
theorem does_nilck (x : Operand) (ho : o.op=.nilCheck x) (hi : toI E.P E.nt o=some i) (hg : HGood E h c w) (hop : Opnd E c w ev get i)
 (hs : opSem key get (fun k=>hk k h) i=some out) (hp : out.pre) : Does E h c w ev o key out:=by
 simp only [toI,ho] at hi
 obtain ⟨m,hm,rfl⟩:=Option.map_eq_some_iff.1 hi
 have hr:=hop _ x m hm (by simp [MI.ops])
 simp only [opSem] at hs
 cases hx : get m with
 | ref cs =>
   rw [hx] at hs hr
   simp only [Option.some.injEq] at hs
   subst hs
   obtain ⟨ad,e,hh⟩:=hr
   exact Does.same (v:=ev x) (by simp [execOp,ho,e]) rfl hg ⟨ad,e,hh⟩
 | ptr g esz k off =>
   rw [hx] at hs hr
   simp only [Option.some.injEq] at hs
   subst hs
   obtain ⟨hg1,ad,hb,e⟩:=hr
   exact Does.same (v:=ev x) (by simp [execOp,ho,e]) rfl hg ⟨hg1,ad,hb,e⟩
 | fn f a b =>
   rw [hx] at hs hr
   simp only [Option.some.injEq] at hs
   subst hs
   obtain ⟨a',b',e,hh⟩:=hr
   exact Does.same (v:=ev x) (by simp [execOp,ho,e]) rfl hg ⟨a',b',e,hh⟩
 | _=>rw [hx] at hs; simp at hs
theorem does_un (op : UnOp) (t : TypeId) (x : Operand) (ho : o.op=.unOp op t x) (hi : toI E.P E.nt o=some i) (hg : HGood E h c w) (hop : Opnd E c w ev get i)
 (hs : opSem key get (fun k=>hk k h) i=some out) (hp : out.pre) : Does E h c w ev o key out:=by
 simp only [toI,ho] at hi
 obtain ⟨m,hm,rfl⟩:=Option.map_eq_some_iff.1 hi
 have hr:=hop _ x m hm (by simp [MI.ops])
 simp only [opSem] at hs
 split at hs
 ·rename_i b hx
  rw [hx] at hr
  simp only [Option.some.injEq] at hs
  subst hs
  exact Does.same (v:=.bool (!b)) (by simp [execOp,ho,show ev x=.bool b from hr,Op.unary]) rfl hg rfl
 ·rename_i k n hx
  rw [hx] at hr
  simp only [Option.some.injEq] at hs
  subst hs
  exact Does.same (v:=.int k (k.wrap (0 - n))) (by simp [execOp,ho,show ev x=.int k n from hr.1,Op.unary,Op.intArith]) rfl hg ⟨rfl,wrap_ok _ _⟩
 ·cases hs
theorem does_conv (s d : TypeId) (x : Operand) (ho : o.op=.convert s d x) (hnb : ∀ y,i ≠ .b2s y∧i ≠ .s2b y) (hi : toI E.P E.nt o=some i) (hg : HGood E h c w) (hop : Opnd E c w ev get i)
 (hs : opSem key get (fun k=>hk k h) i=some out) (hp : out.pre) : Does E h c w ev o key out:=by
 simp only [toI,ho] at hi
 split at hi
 ·cases hi
 rename_i hsn
 have hsrc : ∃ e,E.P.underlying s=some e:=by
  cases hq : E.P.underlying s with
  | none=>rw [hq] at hsn; exact absurd rfl hsn
  | some e=>exact ⟨e,rfl⟩
 split at hi
 ·rename_i k hk
  obtain ⟨m,hm,rfl⟩:=Option.map_eq_some_iff.1 hi
  have hr:=hop _ x m hm (by simp [MI.ops])
  simp only [opSem] at hs
  split at hs
  ·rename_i k' n hx
   rw [hx] at hr
   simp only [Option.some.injEq] at hs
   subst hs
   obtain ⟨e,he⟩:=hsrc
   exact Does.same (v:=.int k (k.wrap n)) (by simp [execOp,ho,show ev x=.int k' n from hr.1,convert,run_underlying he,run_underlying hk,Conv.intToInt]) rfl hg ⟨rfl,wrap_ok _ _⟩
  ·cases hs
 ·split at hi
  ·split at hi
   ·obtain ⟨m,hm,rfl⟩:=Option.map_eq_some_iff.1 hi
    exact absurd rfl (hnb m).1
   ·cases hi
  ·cases hi
 ·split at hi
  ·obtain ⟨m,hm,rfl⟩:=Option.map_eq_some_iff.1 hi
   exact absurd rfl (hnb m).2
  ·cases hi
 ·cases hi
 ·cases hi
theorem does_faddr (s : TypeId) (x : Operand) (f : Nat) (ho : o.op=.fieldAddr s x f) (hi : toI E.P E.nt o=some i) (hg : HGood E h c w) (hop : Opnd E c w ev get i)
 (hs : opSem key get (fun k=>hk k h) i=some out) (hp : out.pre) : Does E h c w ev o key out:=by
 simp only [toI,ho] at hi
 split at hi
 ·rename_i fs hfs
  split at hi
  ·rename_i fd hfd
   split at hi
   ·cases hi
   ·rename_i hz
    simp only [Bool.or_eq_true,decide_eq_true_eq,not_or] at hz
    obtain ⟨inf,d,h1,h2,h3⟩:=info_okT (by simpa using hz.1)
    have hz' : inf.size ≠ 0:=by rw [← h3]; exact hz.2
    obtain ⟨m,hm,rfl⟩:=Option.map_eq_some_iff.1 hi
    have hr:=hop _ x m hm (by simp [MI.ops])
    simp only [opSem] at hs
    split at hs
    ·rename_i cs hx
     rw [hx] at hr
     simp only [Option.some.injEq] at hs
     subst hs
     obtain ⟨ad,e,e1,e2,e3⟩:=hr
     rw [addr_of e1] at e
     refine Does.same (v:=.pointer (some ⟨ad.block,ad.off+fd.offset,none⟩)) (by simp [execOp,ho,e,Instr.fieldAt,run_underlying hfs,hfd,Instr.sureAddr,fieldPlace,run_sizeOf h1,hz',add_at]) rfl hg ⟨_,rfl,rfl,e2,RepAt.drop _ e3⟩
    ·rename_i g esz k off hx
     rw [hx] at hr
     simp only [Option.some.injEq] at hs
     subst hs
     obtain ⟨e0,e1,ad,e2,e⟩:=hr
     refine Does.same (v:=.pointer (some ⟨ad.block,ad.off+k * esz+off+fd.offset,none⟩)) (by simp [execOp,ho,e,Instr.fieldAt,run_underlying hfs,hfd,Instr.sureAddr,fieldPlace,run_sizeOf h1,hz',add_at]) rfl hg ⟨e0,e1,ad,e2,by simp [Nat.add_assoc]⟩
    ·cases hs
  ·cases hi
 ·cases hi
theorem RepL_nth {w : World} {c : Ctx} {xs : List PV} {vs : List Value} {n : Nat} (h : RepL w c xs vs) (hn : n < xs.length) : ∃ v,vs[n]? = some v∧RepV w c (xs.getD n .undef) v:=by
 obtain ⟨v,h1,h2⟩:=RepL.get n (xs.getD n .undef) h (by simp [List.getD,List.getElem?_eq_getElem hn])
 exact ⟨v,h1,h2⟩
theorem part_ok {P : Program} {t : TypeId} {i : TypeInfo} {d : TypeDesc} (hi : P.info? t=some i) (hd : P.underlying t=some d) {w : World} {c : Ctx} {cs : List PV} {vs : Array Value} {off : Nat}
 (h : RepL w c cs vs.toList) (h1 : ∀ u ∈ vs.toList,u.oneCell'=true) (hn : off+i.size≤cs.length) (hs : aggOf P t=false→i.size=1) :
 ∃ v,(part t vs off).run P w=.ok v w∧RepV w c (mk (aggOf P t) i.size (cs.drop off)) v:=by
 unfold part
 simp only [Sem.run_bind,run_isAgg hd,Result.andThen_ok]
 cases ha : aggOf P t with
 | true =>
   refine ⟨.agg (vs.extract off (off+i.size)),by simp [run_sizeOf hi],?_⟩
   simp only [mk,if_true]
   have e : (vs.extract off (off+i.size)).toList=(vs.toList.drop off).take i.size:=by
    simp [List.extract_eq_take_drop]
   exact ⟨_,rfl,by rw [e]; exact RepL.take _ (RepL.drop _ h),fun u hu=>h1 u (by rw [e] at hu; exact List.mem_of_mem_drop (List.mem_of_mem_take hu))⟩
 | false =>
   have:=hs ha
   have hlt : off < cs.length:=by omega
   obtain ⟨v,e1,e2⟩:=RepL_nth h hlt
   have e3 : vs[off]? = some v:=by simpa using e1
   refine ⟨v,by simp [e3],?_⟩
   simp only [mk,Bool.false_eq_true,if_false]
   have : (cs.drop off).headD .undef=cs.getD off .undef:=by simp [List.headD_eq_head?_getD,List.head?_drop,List.getD]
   rwa [this]
theorem does_field (s : TypeId) (x : Operand) (f : Nat) (ho : o.op=.field s x f) (hi : toI E.P E.nt o=some i) (hg : HGood E h c w) (hop : Opnd E c w ev get i)
 (hs : opSem key get (fun k=>hk k h) i=some out) (hp : out.pre) : Does E h c w ev o key out:=by
 simp only [toI,ho] at hi
 split at hi
 ·rename_i fs hfs
  split at hi
  ·rename_i fd hfd
   split at hi
   ·cases hi
   ·rename_i hz
    obtain ⟨inf,d,h1,h2,h3⟩:=info_okT hz
    obtain ⟨m,hm,rfl⟩:=Option.map_eq_some_iff.1 hi
    have hr:=hop _ x m hm (by simp [MI.ops])
    simp only [opSem] at hs
    split at hs
    ·rename_i cs hx
     rw [hx] at hr
     simp only [Option.some.injEq] at hs
     subst hs
     obtain ⟨vs,e,e1,e2⟩:=hr
     obtain ⟨p1,p2⟩:=hp
     obtain ⟨v,q1,q2⟩:=part_ok h1 h2 e1 e2 (off:=fd.offset) (by rw [← h3]; exact p1) (by rw [← h3]; exact p2)
     refine Does.same (v:=v) (by simp [execOp,ho,e,Instr.field,run_underlying hfs,hfd,asAgg,q1]) rfl hg (by rw [h3]; exact q2)
    ·cases hs
  ·cases hi
 ·cases hi
theorem does_iaddr (t : TypeId) (x y : Operand) (ho : o.op=.indexAddr t x y) (hi : toI E.P E.nt o=some i) (hg : HGood E h c w) (hop : Opnd E c w ev get i)
 (hs : opSem key get (fun k=>hk k h) i=some out) (hp : out.pre) : Does E h c w ev o key out:=by
 simp only [toI,ho] at hi
 split at hi
 ·rename_i e hte
  split at hi
  ·cases hi
  ·rename_i hz
   obtain ⟨inf,d,h1,h2,h3⟩:=info_okT hz
   split at hi
   ·rename_i mx mi hmx hmi
    simp only [Option.some.injEq] at hi
    subst hi
    have hr:=hop _ x mx hmx (by simp [MI.ops])
    have hr2:=hop _ y mi hmi (by simp [MI.ops])
    simp only [opSem] at hs
    split at hs
    ·rename_i esz' full xs k n hx hy
     split at hs
     ·rename_i he
      rw [hx] at hr
      rw [hy] at hr2
      simp only [Option.some.injEq] at hs
      subst hs
      obtain ⟨a,cap,q1,q2,q3,q4,q5,q6⟩:=hr
      obtain ⟨p1,p2⟩:=hp
      have hlt : n.toNat < xs.length:=by omega
      rcases q6 with q6 | ⟨ad,q6,q7,q8,q9⟩
      ·subst q6; simp at hlt
      ·rw [addr_of q7] at q6
       obtain ⟨_,r2⟩:=RepRows.get n.toNat (xs.getD n.toNat []) q9 (by simp [List.getD,List.getElem?_eq_getElem hlt])
       refine Does.same (v:=.pointer (some ⟨ad.block,ad.off+n.toNat * esz',none⟩)) ?_ rfl hg ⟨_,rfl,rfl,q8,r2⟩
       have e1 : esz'=inf.size:=by rw [he,h3]
       simp [execOp,ho,q1,q6,show ev y=.int k n from hr2.1,Instr.indexAt,asIntOf,run_underlying hte,run_sizeOf h1,p1,p2,add_at,e1]
     ·cases hs
    ·rename_i g esz' off len full k n hx hy
     split at hs
     ·rename_i he
      rw [hx] at hr
      rw [hy] at hr2
      simp only [Option.some.injEq] at hs
      subst hs
      obtain ⟨g1,g2,g3,a,cap,q1,q2,q3,q4,q5,q6⟩:=hr
      obtain ⟨p1,p2⟩:=hp
      cases hb : c.β g with
      | none=>rw [hb] at q6; omega
      | some ad =>
        rw [hb] at q6
        rcases q6 with q6 | ⟨q6,_⟩
        ·omega
        ·refine Does.same (v:=.pointer (some ⟨ad.block,ad.off+(off+n.toNat) * esz',none⟩)) ?_ rfl hg ⟨g1,by rw [← he]; exact g2,ad,hb,by simp [he]⟩
         have e1 : esz'=inf.size:=by rw [he,h3]
         simp [execOp,ho,q1,q6,show ev y=.int k n from hr2.1,Instr.indexAt,asIntOf,run_underlying hte,run_sizeOf h1,p1,p2,add_at,← e1,Nat.add_mul,Nat.add_assoc]
     ·cases hs
    ·cases hs
   ·cases hi
 ·rename_i len e hte
  split at hi
  ·cases hi
  ·rename_i hz
   obtain ⟨inf,d,h1,h2,h3⟩:=info_okT hz
   split at hi
   ·rename_i mx mi hmx hmi
    simp only [Option.some.injEq] at hi
    subst hi
    have hr:=hop _ x mx hmx (by simp [MI.ops])
    have hr2:=hop _ y mi hmi (by simp [MI.ops])
    simp only [opSem] at hs
    split at hs
    ·rename_i cs k n hx hy
     rw [hx] at hr
     rw [hy] at hr2
     simp only [Option.some.injEq] at hs
     subst hs
     obtain ⟨ad,e0,e1,e2,e3⟩:=hr
     obtain ⟨p1,p2⟩:=hp
     rw [addr_of e1] at e0
     refine Does.same (v:=.pointer (some ⟨ad.block,ad.off+n.toNat * inf.size,none⟩)) ?_ rfl hg ⟨_,rfl,rfl,e2,by rw [h3]; exact RepAt.drop _ e3⟩
     simp [execOp,ho,e0,show ev y=.int k n from hr2.1,Instr.indexAt,Instr.sureAddr,asIntOf,run_underlying hte,run_sizeOf h1,p1,p2,add_at]
    ·rename_i g es j off k n hx hy
     rw [hx] at hr
     rw [hy] at hr2
     simp only [Option.some.injEq] at hs
     subst hs
     obtain ⟨g1,g2,ad,g3,g4⟩:=hr
     obtain ⟨p1,p2⟩:=hp
     refine Does.same (v:=.pointer (some ⟨ad.block,ad.off+j * es+off+n.toNat * inf.size,none⟩)) ?_ rfl hg ⟨g1,g2,ad,g3,by rw [h3,Nat.add_assoc]⟩
     simp [execOp,ho,g4,show ev y=.int k n from hr2.1,Instr.indexAt,Instr.sureAddr,asIntOf,run_underlying hte,run_sizeOf h1,p1,p2,add_at]
    ·cases hs
   ·cases hi
 ·cases hi
theorem does_ext (x : Operand) (n : Nat) (ho : o.op=.extract x n) (hi : toI E.P E.nt o=some i) (hg : HGood E h c w) (hop : Opnd E c w ev get i)
 (hs : opSem key get (fun k=>hk k h) i=some out) (hp : out.pre) : Does E h c w ev o key out:=by
 simp only [toI,ho] at hi
 obtain ⟨m,hm,rfl⟩:=Option.map_eq_some_iff.1 hi
 have hr:=hop _ x m hm (by simp [MI.ops])
 simp only [opSem] at hs
 split at hs
 ·rename_i xs hx
  rw [hx] at hr
  simp only [Option.some.injEq] at hs
  subst hs
  obtain ⟨vs,e,e1⟩:=hr
  obtain ⟨v,q1,q2⟩:=RepL_nth e1 hp
  have q3 : vs[n]? = some v:=by simpa using q1
  exact Does.same (v:=v) (by simp [execOp,ho,e,Instr.extract,q3]) rfl hg q2
 ·cases hs
theorem does_mkif (t : TypeId) (x : Operand) (ho : o.op=.makeInterface t x) (hi : toI E.P E.nt o=some i) (hg : HGood E h c w) (hop : Opnd E c w ev get i)
 (hs : opSem key get (fun k=>hk k h) i=some out) (hp : out.pre) : Does E h c w ev o key out:=by
 simp only [toI,ho] at hi
 split at hi
 ·cases hi
 ·rename_i d hd hne
  obtain ⟨m,hm,rfl⟩:=Option.map_eq_some_iff.1 hi
  have hr:=hop _ x m hm (by simp [MI.ops])
  simp only [opSem,Option.some.injEq] at hs
  subst hs
  refine Does.same (v:=.iface t (ev x)) ?_ rfl hg ⟨_,rfl,hr⟩
  have : E.P.concrete t=true:=by
   unfold Program.concrete
   rw [hne]
   cases d <;> first | rfl | (exact absurd rfl (hd _))
  simp [execOp,ho,run_makeInterface _ _ _ this]
 ·cases hi
end
end Go.Proofs.YtbdogkmdanmojaaGreatDoor.Pv
namespace Go.Proofs.YtbdogkmdanmojaaGreatDoor.Pv
open Go Go.RowKit
section
variable {E : Env} {h : List (Key × Option HE)} {c : Ctx} {w : World} {ev : Operand→Value} {get : MO→PV} {o : Oper} {i : MI} {key : Key} {out : Out}
theorem does_load (t : TypeId) (x : Operand) (ho : o.op=.load t x) (hi : toI E.P E.nt o=some i) (hg : HGood E h c w) (hop : Opnd E c w ev get i)
 (hs : opSem key get (fun k=>hk k h) i=some out) (hp : out.pre) : Does E h c w ev o key out:=by
 simp only [toI,ho] at hi
 split at hi
 ·cases hi
 ·rename_i hz
  obtain ⟨inf,d,h1,h2,h3⟩:=info_okT hz
  obtain ⟨m,hm,rfl⟩:=Option.map_eq_some_iff.1 hi
  have hr:=hop _ x m hm (by simp [MI.ops])
  simp only [opSem] at hs
  split at hs
  ·rename_i cs hx
   rw [hx] at hr
   simp only [Option.some.injEq] at hs
   subst hs
   obtain ⟨ad,e,e1,e2,e3⟩:=hr
   rw [addr_of e1] at e
   obtain ⟨v,q1,q2,_⟩:=load_at h1 h2 e3.und (by rw [← h3]; exact hp.1) (by rw [← h3]; exact hp.2)
   exact Does.same (v:=v) (by simp [execOp,ho,e,Instr.loadAt,Instr.sureAddr,q1]) rfl hg (by rw [h3]; exact q2)
  ·rename_i g esz k off hx
   rw [hx] at hr
   split at hs
   ·rename_i e he
    simp only [Option.some.injEq] at hs
    subst hs
    obtain ⟨g1,g2,ad,g3,g4⟩:=hr
    obtain ⟨p1,p2,p3⟩:=hp
    have hh:=hg.heap g e he
    obtain ⟨ad',q1,q2,q3,q4,q5⟩:=hh.block (by omega)
    rw [g3] at q1
    obtain rfl:=Option.some.inj q1
    obtain ⟨_,r2⟩:=RepRows.get k (e.xs.getD k []) q4.und' (by simp [List.getD,List.getElem?_eq_getElem p1])
    have r3:=RepAt.drop off r2
    obtain ⟨v,s1,s2,_⟩:=load_at h1 h2 r3 (by rw [← h3]; simp only [List.length_drop]; omega) (by rw [← h3]; exact p3)
    have e1 : esz=e.esz:=by rw [g2,hh.2.1]
    exact Does.same (v:=v) (by simp [execOp,ho,g4,Instr.loadAt,Instr.sureAddr,e1,s1]) rfl hg (by rw [h3]; exact s2)
   ·cases hs
  ·cases hs
theorem does_len (t : TypeId) (x : Operand) (cl : Call) (ho : o.op=.call cl) (hcl : cl.callee=.builtin .len) (hi : toI E.P E.nt o=some i) (hg : HGood E h c w) (hop : Opnd E c w ev get i)
 (hs : opSem key get (fun k=>hk k h) i=some out) (hp : out.pre) : Does E h c w ev o key out:=by
 simp only [toI,ho,hcl] at hi
 split at hi
 ·rename_i t x ht hx
  have ea : cl.args=#[x]:=by rw [← Array.toArray_toList (xs:=cl.args),hx]
  have et : cl.argTypes=#[t]:=by rw [← Array.toArray_toList (xs:=cl.argTypes),ht]
  split at hi
  ·rename_i e hte
   obtain ⟨m,hm,rfl⟩:=Option.map_eq_some_iff.1 hi
   have hr:=hop _ x m hm (by simp [MI.ops])
   simp only [opSem] at hs
   split at hs
   ·rename_i xs hx
    rw [hx] at hr
    simp only [Option.some.injEq] at hs
    subst hs
    obtain ⟨a,cap,q1,q2,q3,_⟩:=hr
    refine Does.same (v:=.int .i64 xs.length) (by simp [execOp,ho,resolve,hcl,invoke,builtin,ea,et,Builtin.len_,run_underlying hte,q1,goInt]) rfl hg ⟨rfl,?_⟩
    simp [IntKind.min,IntKind.max,IntKind.signed,IntKind.bits]; omega
   ·rename_i g es off len full hx
    rw [hx] at hr
    simp only [Option.some.injEq] at hs
    subst hs
    obtain ⟨_,_,_,a,cap,q1,q2,q3,_⟩:=hr
    refine Does.same (v:=.int .i64 len) (by simp [execOp,ho,resolve,hcl,invoke,builtin,ea,et,Builtin.len_,run_underlying hte,q1,goInt]) rfl hg ⟨rfl,?_⟩
    simp [IntKind.min,IntKind.max,IntKind.signed,IntKind.bits]; omega
   ·cases hs
  ·rename_i hte
   obtain ⟨m,hm,rfl⟩:=Option.map_eq_some_iff.1 hi
   have hr:=hop _ x m hm (by simp [MI.ops])
   simp only [opSem] at hs
   split at hs
   ·rename_i s hx
    rw [hx] at hr
    simp only [Option.some.injEq] at hs
    subst hs
    obtain ⟨q1,q2⟩:=hr
    refine Does.same (v:=.int .i64 s.size) (by simp [execOp,ho,resolve,hcl,invoke,builtin,ea,et,Builtin.len_,run_underlying hte,q1,goInt]) rfl hg ⟨rfl,?_⟩
    simp [IntKind.min,IntKind.max,IntKind.signed,IntKind.bits]; unfold LIM at q2; omega
   ·cases hs
  ·cases hi
 ·cases hi
theorem eqGuard_int (op : BinOp) (t : TypeId) (x y : Operand) (k k' : IntKind) (a b : Int) : (eqGuard op t x y (.int k a) (.int k' b)).run E.P w=.ok () w:=by
 unfold eqGuard; cases op <;> rfl
theorem eqGuard_str (op : BinOp) (t : TypeId) (x y : Operand) (a b : ByteArray) : (eqGuard op t x y (.string a) (.string b)).run E.P w=.ok () w:=by
 unfold eqGuard; cases op <;> rfl
theorem eqGuard_bool (op : BinOp) (t : TypeId) (x y : Operand) (a b : Bool) : (eqGuard op t x y (.bool a) (.bool b)).run E.P w=.ok () w:=by
 unfold eqGuard; cases op <;> rfl
theorem binInt_ok (op : BinOp) (cls : Nat) (k k' : IntKind) (a b : Int) (p : Prop) (r : PV) (hs : binSem op cls (.int k a) (.int k' b)=some (p,r)) (hp : p) (ha : k.min≤a∧a≤k.max) (t : TypeId) :
 ∃ v,(binOp op t (.int k a) (.int k' b)).run E.P w=.ok v w∧RepV w c r v:=by
 by_cases hk : k=k'
 ·subst hk
  cases op <;> simp only [binSem,ne_eq,not_true_eq_false,if_false,Option.some.injEq,Prod.mk.injEq,reduceCtorEq] at hs
  all_goals first
    | (obtain ⟨rfl,rfl⟩:=hs
       first
       | (refine ⟨.int k (k.wrap (a+b)),by simp [binOp,Op.intArith],rfl,wrap_ok _ _⟩; done)
       | (refine ⟨.int k (k.wrap (a - b)),by simp [binOp,Op.intArith],rfl,wrap_ok _ _⟩; done)
       | (refine ⟨.int k (k.wrap (a * b)),by simp [binOp,Op.intArith],rfl,wrap_ok _ _⟩; done)
       | (refine ⟨.int k (k.wrap (a.tdiv b)),by simp [binOp,Op.intDiv,hp],rfl,wrap_ok _ _⟩; done)
       | (refine ⟨.int k (a.tmod b),by simp [binOp,Op.intDiv,hp],rfl,tmod_ok _ _ _ ha⟩; done)
       | (refine ⟨.int k (k.wrap (BitVec.ofInt k.bits a &&& BitVec.ofInt k.bits b).toNat),by simp [binOp,Op.intBits],rfl,wrap_ok _ _⟩; done)
       | (refine ⟨.int k (k.wrap (BitVec.ofInt k.bits a ||| BitVec.ofInt k.bits b).toNat),by simp [binOp,Op.intBits],rfl,wrap_ok _ _⟩; done)
       | (refine ⟨.int k (k.wrap (BitVec.ofInt k.bits a ^^^ BitVec.ofInt k.bits b).toNat),by simp [binOp,Op.intBits],rfl,wrap_ok _ _⟩; done)
       | (refine ⟨.int k (k.wrap (a * 2 ^ (min b.toNat k.bits))),by simp [binOp,Op.shift,Int.not_lt.2 hp],rfl,wrap_ok _ _⟩; done)
       | (refine ⟨.int k (a.fdiv (2 ^ (min b.toNat k.bits))),by simp [binOp,Op.shift,Int.not_lt.2 hp],rfl,fdiv_ok _ _ _ ha⟩; done)
       | (refine ⟨.bool (a == b),by simp [binOp,Op.intCmp],rfl⟩; done)
       | (refine ⟨.bool (a != b),by simp [binOp,Op.intCmp],rfl⟩; done)
       | (refine ⟨.bool (decide (a < b)),by simp [binOp,Op.intCmp],rfl⟩; done)
       | (refine ⟨.bool (decide (a≤b)),by simp [binOp,Op.intCmp],rfl⟩; done)
       | (refine ⟨.bool (decide (a > b)),by simp [binOp,Op.intCmp],rfl⟩; done)
       | (refine ⟨.bool (decide (a ≥ b)),by simp [binOp,Op.intCmp],rfl⟩; done))
    | cases hs
 ·cases op <;> simp only [binSem,ne_eq,hk,not_false_eq_true,if_true,Option.some.injEq,Prod.mk.injEq,reduceCtorEq] at hs
  all_goals first
    | (obtain ⟨rfl,rfl⟩:=hs
       first
       | (refine ⟨.int k (k.wrap (a * 2 ^ (min b.toNat k.bits))),by simp [binOp,Op.shift,Int.not_lt.2 hp],rfl,wrap_ok _ _⟩; done)
       | (refine ⟨.int k (a.fdiv (2 ^ (min b.toNat k.bits))),by simp [binOp,Op.shift,Int.not_lt.2 hp],rfl,fdiv_ok _ _ _ ha⟩; done))
    | cases hs
theorem bytes_loop (b : ByteArray) : ∀ (n i : Nat) (r : List UInt8),b.size - i=n→ByteArray.toList.loop b i r=r.reverse++b.data.toList.drop i:=by
 have hs : b.data.toList.length=b.size:=Array.length_toList
 intro n
 induction n with
 | zero =>
   intro i r h
   unfold ByteArray.toList.loop
   have : ¬ i < b.size:=by omega
   rw [if_neg this,List.drop_of_length_le (by omega),List.append_nil]
 | succ n ih =>
   intro i r h
   unfold ByteArray.toList.loop
   have hlt : i < b.size:=by omega
   rw [if_pos hlt,ih (i+1) _ (by omega)]
   have hl : i < b.data.toList.length:=by omega
   rw [List.drop_eq_getElem_cons hl,List.reverse_cons,List.append_assoc]
   have : b.get! i=b.data.toList[i]:=by
    have h1 : b.get! i=b.data[i]! := by cases b; rfl
    have h2 : i < b.data.size:=by rw [← Array.length_toList]; exact hl
    rw [h1,getElem!_pos b.data i h2]; rfl
   rw [this]; rfl
theorem bytes_toList (b : ByteArray) : b.toList=b.data.toList:=by
 unfold ByteArray.toList
 rw [bytes_loop b _ 0 [] rfl,List.reverse_nil,List.nil_append,List.drop_zero]
theorem binStr_ok (op : BinOp) (cls : Nat) (a b : ByteArray) (p : Prop) (r : PV) (hs : binSem op cls (.str a) (.str b)=some (p,r)) (hp : p) (t : TypeId) :
 ∃ v,(binOp op t (.string a) (.string b)).run E.P w=.ok v w∧RepV w c r v:=by
 cases op <;> simp only [binSem,Option.some.injEq,Prod.mk.injEq,reduceCtorEq] at hs
 all_goals first
   | (obtain ⟨rfl,rfl⟩:=hs
      first
      | (refine ⟨.bool (strEq a b),by simp [binOp,Op.stringOp,strEq,bytes_toList],rfl⟩; done)
      | (refine ⟨.bool (!strEq a b),by simp [binOp,Op.stringOp,strEq,bytes_toList],rfl⟩; done)
      | (refine ⟨.bool (strLt a b),by simp [binOp,Op.stringOp,strLt,bytes_toList],rfl⟩; done)
      | (refine ⟨.bool (strLt a b||strEq a b),by simp [binOp,Op.stringOp,strLt,strEq,bytes_toList],rfl⟩; done)
      | (refine ⟨.bool (!(strLt a b||strEq a b)),by simp [binOp,Op.stringOp,strLt,strEq,bytes_toList],rfl⟩; done)
      | (refine ⟨.bool (!strLt a b),by simp [binOp,Op.stringOp,strLt,bytes_toList],rfl⟩; done)
      | (have h1 : (a.size : Int)+(b.size : Int)≤9223372036854775807:=by
           unfold LIM at hp
           omega
         refine ⟨.string (a++b),by simp [binOp,Op.stringOp,IntKind.max,IntKind.signed,IntKind.bits,h1],rfl,by simpa [ByteArray.size_append] using hp⟩; done))
   | cases hs
theorem equal_bool {P : Program} {t : TypeId} (hu : P.underlying t=some .bool) (a b : Bool) : (Op.equal t (.bool a) (.bool b)).run P w=.ok (a == b) w:=by
 have key : ∀ d : Nat,(Op.equalIn (d+1) t (.bool a) (.bool b)).run P w=.ok (a == b) w:=fun d=>by
  unfold Op.equalIn
  simp only [Sem.run_bind,run_underlying hu,Result.andThen_ok]
  rfl
 exact key 9999
theorem binOp_eql_bool {P : Program} {t : TypeId} (hu : P.underlying t=some .bool) (a b : Bool) : (binOp .eql t (.bool a) (.bool b)).run P w=.ok (.bool (a == b)) w:=by
 show ((Op.equal t (.bool a) (.bool b)) >>= fun r=>pure (Value.bool r)).run P w=_
 rw [Sem.run_bind,equal_bool hu]; rfl
theorem binOp_neq_bool {P : Program} {t : TypeId} (hu : P.underlying t=some .bool) (a b : Bool) : (binOp .neq t (.bool a) (.bool b)).run P w=.ok (.bool (!(a == b))) w:=by
 show ((Op.equal t (.bool a) (.bool b)) >>= fun r=>pure (Value.bool (!r))).run P w=_
 rw [Sem.run_bind,equal_bool hu]; rfl
theorem does_bin (op : BinOp) (t u : TypeId) (x y : Operand) (ho : o.op=.binOp op t x y u) (hn : isNilCmp E.P t y=false) (hi : toI E.P E.nt o=some i) (hg : HGood E h c w) (hop : Opnd E c w ev get i)
 (hs : opSem key get (fun k=>hk k h) i=some out) (hp : out.pre) : Does E h c w ev o key out:=by
 simp only [toI,ho,hn,Bool.false_eq_true,if_false] at hi
 split at hi
 ·rename_i mx my hmx hmy
  simp only [Option.some.injEq] at hi
  subst hi
  have h1:=hop _ x mx hmx (by simp [MI.ops])
  have h2:=hop _ y my hmy (by simp [MI.ops])
  simp only [opSem] at hs
  split at hs
  ·rename_i p r hb
   simp only [Option.some.injEq] at hs
   subst hs
   cases hx : get mx <;> cases hy : get my <;> rw [hx,hy] at hb <;> first | (simp [binSem] at hb; done) | skip
   case bool.bool a b =>
     rw [hx] at h1
     rw [hy] at h2
     simp only [binSem] at hb
     split at hb
     ·rename_i hc
      have hu : E.P.underlying t=some .bool:=by
       unfold binCls at hc
       split at hc
       ·rename_i hh; exact hh
       ·cases hc
      cases op <;> simp only [Option.some.injEq,Prod.mk.injEq,reduceCtorEq] at hb
      ·obtain ⟨rfl,rfl⟩:=hb
       exact Does.same (v:=.bool (a == b)) (by simp [execOp,ho,show ev x=.bool a from h1,show ev y=.bool b from h2,eqGuard_bool,binOp_eql_bool hu]) rfl hg rfl
      ·obtain ⟨rfl,rfl⟩:=hb
       exact Does.same (v:=.bool (!(a == b))) (by simp [execOp,ho,show ev x=.bool a from h1,show ev y=.bool b from h2,eqGuard_bool,binOp_neq_bool hu]) rfl hg rfl
     ·cases hb
   case int.int k a k' b =>
     rw [hx] at h1
     rw [hy] at h2
     obtain ⟨v,q1,q2⟩:=binInt_ok (E:=E) (c:=c) (w:=w) op _ k k' a b p r hb hp h1.2 t
     exact Does.same (v:=v) (by simp [execOp,ho,show ev x=.int k a from h1.1,show ev y=.int k' b from h2.1,eqGuard_int,q1]) rfl hg q2
   case str.str a b =>
     rw [hx] at h1
     rw [hy] at h2
     obtain ⟨v,q1,q2⟩:=binStr_ok (E:=E) (c:=c) (w:=w) op _ a b p r hb hp t
     exact Does.same (v:=v) (by simp [execOp,ho,show ev x=.string a from h1.1,show ev y=.string b from h2.1,eqGuard_str,q1]) rfl hg q2
  ·cases hs
 ·cases hi
theorem strip_rep {x : PV} {v : Value} (h : RepV w c x v) {cb want : Bool} (hb : okOpt cb want x) (ht : cb=want) : RepV w c (strip x) v:=by
 cases x <;> first | exact h | exact h.1 (hb ht)
theorem run_rep {x : PV} {v : Value} (h : RepV w c x v) (hb : isRun x) : RepV w c (strip x) v:=by
 cases x <;> first | exact h | exact h.1 hb
theorem does_pick (cc x y : Operand) (ho : o.op=.pick cc x y) (hi : toI E.P E.nt o=some i) (hg : HGood E h c w) (hop : Opnd E c w ev get i)
 (hs : opSem key get (fun k=>hk k h) i=some out) (hp : out.pre) : Does E h c w ev o key out:=by
 simp only [toI,ho] at hi
 split at hi
 ·rename_i mc mx my hmc hmx hmy
  simp only [Option.some.injEq] at hi
  subst hi
  have h0:=hop _ cc mc hmc (by simp [MI.ops])
  have h1:=hop _ x mx hmx (by simp [MI.ops])
  have h2:=hop _ y my hmy (by simp [MI.ops])
  simp only [opSem] at hs
  split at hs
  ·rename_i cb hc
   simp only [Option.some.injEq] at hs
   subst hs
   obtain ⟨p0,p1,p2⟩:=hp
   replace h0 : RepV w c (.bool cb) (ev cc):=by
    rw [← hc]
    exact run_rep h0 p0
   have key : ∀ v,(cb=true→RepV w c (strip (get mx)) v)→(cb=false→RepV w c (strip (get my)) v) →
    RepV w c (match strip (get mx),strip (get my) with | .bool p,.bool q=>.bool (cond cb p q) | .int k m,.int k' n=>if k=k' then .int k (cond cb m n) else cond cb (.int k m) (.int k' n) | x,y=>cond cb x y) v:=by
    intro v q1 q2
    split
    ·rename_i p q e1 e2
     rw [e1] at q1
     rw [e2] at q2
     cases cb
     ·exact q2 rfl
     ·exact q1 rfl
    ·rename_i k m k' n e1 e2
     rw [e1] at q1
     rw [e2] at q2
     split
     ·rename_i e; subst e
      cases cb
      ·exact q2 rfl
      ·exact q1 rfl
     ·cases cb
      ·exact q2 rfl
      ·exact q1 rfl
    ·cases cb
     ·exact q2 rfl
     ·exact q1 rfl
   refine Does.same (v:=if cb then ev x else ev y) (by simp [execOp,ho,show ev cc=.bool cb from h0,asBool]) rfl hg (key _ ?_ ?_)
   ·intro hb
    rw [if_pos hb]
    exact strip_rep h1 p1 hb
   ·intro hb
    rw [if_neg (by simp [hb])]
    exact strip_rep h2 p2 hb
  ·cases hs
 ·cases hi
end
end Go.Proofs.YtbdogkmdanmojaaGreatDoor.Pv
