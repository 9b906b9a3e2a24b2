/- Part 11. -/
import Derived.Test.YtjipnamfdmllmaaGreatDoorN10
import Derived.ProofKit
import Derived.Test.YtjipnamfdmllmaaGreatDoorRows
import Derived.Lib.LaidU8
import Derived.Lib.LaidU8T
import Derived.PinnedBridge
set_option linter.unusedSimpArgs false
set_option linter.unusedVariables false
namespace Go.Proofs.YtjipnamfdmllmaaGreatDoor.Pv
open Go Go.Tidy Go.RowKit
def wOk {H:Type} (P:Program) (t:TypeId) (d:DataW H):Prop:=∀ n∈d.weights P t,n≤reachBytes
mutual
def bkD {H:Type}:DataW H→Nat
 | .lit (.string b)=>b.length+1
 | .lit _=>1
 | .nil=>1
 | .ptr d=>bkD d+1
 | .slice l m=>bkDs l+bkDs m+1
 | .agg l=>bkDs l+1
 | .iface _ d=>bkD d+1
 | .map _=>1
 | .held _=>1
def bkDs {H:Type}:List (DataW H)→Nat
 | []=>0
 | d::l=>bkD d+bkDs l
end
theorem bkD_ge {H:Type} (d:DataW H):1≤bkD d:=by
 cases d with
 | lit l=>cases l<;>simp[bkD]
 | nil|ptr _|slice _ _|agg _|iface _ _|map _|held _=>simp[bkD]
section
variable {H:Type} {enc:TypeId × Value→H} {P:Program} {W:World}
abbrev allF (W:World):Nat→Prop:=fun b=>b<W.heap.size
def RdOk (enc:TypeId × Value→H) (P:Program) (W:World) (k:Nat) (t:TypeId) {α:Type} (f:α→List PV) (wt:α→Nat):Prop :=
 ∀ cs d ps,DataW.trod enc P W 0 (fun _=>true) true k t cs=some (d,ps)→wOk P t d→∃ x:α,RepL W (dctx (allF W)) (f x) cs∧(∀ u∈cs,u.oneCell'=true)∧wt x≤bkD d
theorem rd_zero {t:TypeId} {α:Type} {f:α→List PV} {wt:α→Nat}:RdOk enc P W 0 t f wt:=fun cs d ps h _=>by simp[DataW.trod] at h
theorem rep_one {c:Ctx} {x:PV} {v:Value} (h:RepV W c x v):RepL W c [x] [v]:=⟨v,[],rfl,h,rfl⟩
theorem rep_one' {c:Ctx} {x:PV} {v:Value} (h:RepL W c [x] [v]):RepV W c x v:=by
 obtain⟨u,us,e,h1,h2⟩:=h
 simp only[List.cons.injEq] at e
 rw[e.1]; exact h1
theorem rd_int {t:TypeId} (ht:P.underlying t=some (.int .i64)):∀ k,RdOk enc P W k t (fun n:Int=>[PV.int .i64 n]) fun _=>1
 | 0=>rd_zero
 | k+1=>fun cs d ps h hw=>by
   unfold DataW.trod at h
   rw[ht] at h
   simp only at h
   split at h
   all_goals (first|(cases h; done)|skip)
   all_goals (simp only[reduceCtorEq,Option.some.injEq,TypeDesc.int.injEq] at *)
   rename_i k1 k2 n e
   subst e
   split at h
   ·rename_i hh
    obtain⟨rfl,hh⟩:=hh
    refine⟨n,rep_one ⟨rfl,?_⟩,by simp[Value.oneCell'],bkD_ge _⟩
    simpa[Lit.wf] using hh
   ·cases h
end
end Go.Proofs.YtjipnamfdmllmaaGreatDoor.Pv
namespace Go.Proofs.YtjipnamfdmllmaaGreatDoor
open Go Go.ChangeShapes Go.WideShapes Go.ChangeAt Go.RowKit
theorem Pv.first_at:∀ c:Fin 256,Pv.utf8First[c.1]? = some (Lib.firstT c.1):=by decide +kernel
theorem Pv.accept_at:∀ i:Fin 16,Pv.utf8Accept[2*i.1]? = some (Lib.accLo i.1)∧Pv.utf8Accept[2*i.1+1]? = some (Lib.accHi i.1):=by decide +kernel
theorem own:ownKnob Tryz.prog.godebug=none:=by kernel_rfl
theorem laidOut:laidOutB Tryz.prog=true:=by kernel_rfl
theorem u8x:U8Extra Tryz.prog Tryz.laysValid_ren:=⟨by kernel_rfl,by kernel_rfl,by kernel_rfl,by kernel_rfl,by kernel_rfl,by kernel_rfl,by kernel_rfl⟩
theorem gtab_all:((List.range Tryz.prog.globals.size).all fun g=>match Pv.gTab Tryz.prog g with
 | none=>true
 | some cs=>(g == Tryz.laysValid_ren.g 3&&cs == Pv.utf8First)||(g == Tryz.laysValid_ren.g 4&&cs == Pv.utf8Accept))=true:=by kernel_rfl
theorem gtab_cases {g:Nat} {cs:List Nat} (h:Pv.gTab Tryz.prog g=some cs):(g=Tryz.laysValid_ren.g 3∧cs=Pv.utf8First)∨(g=Tryz.laysValid_ren.g 4∧cs=Pv.utf8Accept):=by
 have hg:g<Tryz.prog.globals.size:=by
  have h2:=h
  unfold Pv.gTab at h2
  split at h2
  ·rename_i gl hgl
   exact (Array.getElem?_eq_some_iff.1 hgl).1
  ·cases h2
 have h3:=List.all_eq_true.1 gtab_all g (List.mem_range.2 hg)
 rw[h] at h3
 simp only[Bool.or_eq_true,Bool.and_eq_true,beq_iff_eq] at h3
 exact h3
theorem cell_lt {w:World} {g j:Nat} {v:Value} (h:w.cell? ⟨g,j,none⟩=some v):g<w.heap.size:=by
 unfold World.cell? at h
 split at h
 ·rename_i hb
  exact (Array.getElem?_eq_some_iff.1 hb).1
 ·cases h
theorem first_le:∀ c:Fin 256,Lib.firstT c.1≤255:=by decide +kernel
theorem accept_le:∀ i:Fin 16,Lib.accLo i.1≤255∧Lib.accHi i.1≤255:=by decide +kernel
theorem first_len:Pv.utf8First.length=256:=by kernel_rfl
theorem accept_len:Pv.utf8Accept.length=32:=by kernel_rfl
theorem pow_eq:(Rows.laid_internal_strconv_uint64pow10:DataW Unit)=Lib.tabData .u64 Lib.pow10Tab:=by kernel_rfl
def powChk (P:Program):Bool:=match P.globalNamed "internal/strconv.uint64pow10" with
 | some g=>(match (P.globals[g]?).map (·.type) with
   | some t=>(match P.underlying t with
     | some (.array n e)=>(match P.underlying e with
       | some (.int .u64)=>P.cellsOf e == 1&&P.cellsOf t == n
       | _=>false)
     | _=>false)
   | none=>false)
 | none=>false
theorem pow_chk:powChk Tryz.prog=true:=by kernel_rfl
theorem pow_of {P:Program} (h:powChk P=true):∃ g t e n,P.globalNamed "internal/strconv.uint64pow10" = some g∧(P.globals[g]?).map (·.type)=some t∧P.underlying t=some (.array n e)∧P.underlying e=some (.int .u64)∧P.cellsOf e=1∧P.cellsOf t=n:=by
 unfold powChk at h
 split at h
 ·rename_i g hg
  split at h
  ·rename_i t ht
   split at h
   ·rename_i n e hu
    split at h
    ·rename_i hi
     simp only[Bool.and_eq_true,beq_iff_eq] at h
     exact⟨g,t,e,n,hg,ht,hu,hi,h.1,h.2⟩
    ·cases h
   ·cases h
  ·cases h
 ·cases h
theorem pow_tab {w:World} (h:Lib.VarReads Tryz.prog w "internal/strconv.uint64pow10" (Lib.tabData .u64 Lib.pow10Tab)):Lib.TabIs Tryz.prog w "internal/strconv.uint64pow10" .u64 Lib.pow10Tab:=by
 obtain⟨g,t,e,n,hg,hty,ht,he,hce,hct⟩:=pow_of pow_chk
 obtain⟨g',t',cs,fuel,p,hg',ht',hvar,hd⟩:=h
 obtain rfl:=Option.some.inj (hg.symm.trans hg')
 obtain rfl:=Option.some.inj (hty.symm.trans ht')
 unfold Lib.TabIs
 rw[hvar,← Lib.cells_of_tab ht he hce hct hd]
theorem tab_lt {P:Program} {w:World} {name:String} {k:IntKind} {zs:List Int} {g:Nat} (hg:P.globalNamed name=some g) (h:Lib.TabIs P w name k zs):g<w.heap.size:=by
 unfold Lib.TabIs World.var? at h
 rw[hg] at h
 simp only[Option.bind_some] at h
 split at h
 ·rename_i hb
  exact (Array.getElem?_eq_some_iff.1 hb).1
 ·cases h
theorem read_name {H:Type} {enc:TypeId × Value→H} {P:Program} {W:World} {t:TypeId} (ht:P.underlying t=some .string) {v:Value} {s:ByteArray} {d:DataW H} {ps:List MemPlace} (hv:v=.string s) (h:DataW.Trod enc P W 0 (fun _=>true) true t v d ps) (hw:Pv.wOk P t d):∃ x:ByteArray,Pv.RepV W (Pv.dctx (Pv.allF W)) (.str x) v∧x.size≤140737488351232:=by
 obtain⟨fuel,h⟩:=h
 subst hv
 cases fuel with
 | zero=>simp[DataW.trod] at h
 | succ k =>
   unfold DataW.trod at h
   rw[ht] at h
   simp only at h
   split at h
   all_goals (first|(cases h; done)|skip)
   all_goals (simp only[reduceCtorEq,Option.some.injEq] at *)
   rename_i s' hcs _
   split at h
   ·cases h
    have:=hw s'.data.toList.length (by unfold DataW.weights; exact List.mem_singleton.2 rfl)
    have e:s'.size=s'.data.toList.length:=rfl
    have e2:s=s':=by
     simp[Value.cells] at hcs
     exact hcs
    subst e2
    refine⟨s,⟨rfl,?_⟩,?_⟩
    ·rw[e]; unfold Pv.LIM; unfold reachBytes at this; omega
    ·rw[e]; unfold reachBytes at this; omega
   ·cases h
theorem read_arity {H:Type} {enc:TypeId × Value→H} {P:Program} {W:World} {t:TypeId} (ht:P.underlying t=some (.int .i64)) {v:Value} {n:Int} {d:DataW H} {ps:List MemPlace} (hv:v=.int .i64 n) (h:DataW.Trod enc P W 0 (fun _=>true) true t v d ps) (hw:Pv.wOk P t d):∃ x:Int,Pv.RepV W (Pv.dctx (Pv.allF W)) (.int .i64 x) v:=by
 obtain⟨fuel,h⟩:=h
 subst hv
 obtain⟨x,h1,h2⟩:=Pv.rd_int ht fuel _ _ _ h hw
 exact⟨x,Pv.rep_one' h1⟩
theorem gok_of {w:World} (hT:Lib.Utf8Tabs (Tryz.laysValid_ren.g 3) (Tryz.laysValid_ren.g 4) w) (hP:Lib.TabIs Tryz.prog w "internal/strconv.uint64pow10" .u64 Lib.pow10Tab):Pv.GOk Tryz.prog w (Pv.allF w):=by
 refine⟨?_,fun t ht g hg=>by
  simp only[Pv.xTabs,List.mem_singleton] at ht
  subst ht
  exact⟨tab_lt hg hP,tab_lt hg hP,hP⟩⟩
 intro g cs hg
 rcases gtab_cases hg with ⟨e1,e2⟩|⟨e1,e2⟩
 ·have h0:=hT.1 0 (by omega)
  rw[← e1] at h0
  refine⟨cell_lt h0,cell_lt h0,fun j n hj=>?_⟩
  rw[e2] at hj
  have hl:j<256:=by
   have:=(List.getElem?_eq_some_iff.1 hj).1
   rw[first_len] at this; exact this
  have e:=Pv.first_at ⟨j,hl⟩
  rw[hj] at e
  have e:=Option.some.inj e
  rw[e,e1]
  exact⟨hT.1 j hl,first_le ⟨j,hl⟩⟩
 ·have h0:=(hT.2 0 (by omega)).1
  rw[← e1] at h0
  refine⟨cell_lt h0,cell_lt h0,fun j n hj=>?_⟩
  rw[e2] at hj
  have hl:j<32:=by
   have:=(List.getElem?_eq_some_iff.1 hj).1
   rw[accept_len] at this; exact this
  have hi:j / 2<16:=by omega
  rw[e1]
  by_cases hp:j % 2=0
  ·have ej:j=2*(j / 2):=by omega
   have e:=(Pv.accept_at ⟨j / 2,hi⟩).1
   simp only at e
   rw[← ej,hj] at e
   have e:=Option.some.inj e
   have h1:=(hT.2 (j / 2) hi).1
   rw[← ej] at h1
   rw[e]
   exact⟨h1,(accept_le ⟨j / 2,hi⟩).1⟩
  ·have ej:j=2*(j / 2)+1:=by omega
   have e:=(Pv.accept_at ⟨j / 2,hi⟩).2
   simp only at e
   rw[← ej,hj] at e
   have e:=Option.some.inj e
   have h1:=(hT.2 (j / 2) hi).2
   rw[← ej] at h1
   rw[e]
   exact⟨h1,(accept_le ⟨j / 2,hi⟩).2⟩
end Go.Proofs.YtjipnamfdmllmaaGreatDoor
