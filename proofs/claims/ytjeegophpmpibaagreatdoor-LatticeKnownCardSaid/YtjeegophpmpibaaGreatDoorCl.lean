/- slices.Clone of the program, at each of its six element sizes, gives back a slice of its own with the same contents. Condition: at most 1000 elements. -/
import Derived.Test.YtjeegophpmpibaaGreatDoorHt
namespace Go.Proofs.YtjeegophpmpibaaGreatDoor.Pv
open Go
attribute [local simp] XC_skip XC_reg XC_seq XC_cond XC_block XC_loop XC_scope XC_exit XC_goto XC_label XC_ret XE_nil XE_sq XE_sq_exit XE_sq_goto XE_sq_ret XE_bk XE_bk_exit XE_bk_goto XE_bk_ret XCond_bool XR_nil XOp_some XOp_none XR_op XR_alloc XR_call XR_dcall XR_nilcmp XR_guard XR_soft XC_draw XD_nil XDOp_some XDOp_none XD_op XD_call XD_dcall XD_guard XD_soft XGuard XSoft XDGuard XDSoft XNil XDyn XDDyn tagsHu okPairs apartL
attribute [local simp] opSem St.init St.get lk hk St.put St.skip MI.allocs binSem retIs retOwn ownIs resAll resOne resOk reify cells mk splice isOne storable fillP fillOk fillR fillROk rowsOf natOf bounds strip guardC optOk optsOk MI.ops subS subH callOut keysL keysOf reifyL okL okV LQ_normal LQ_exit LQ_ret LQ_goto freezeAll tagsOf scalar scalarL
theorem cl20 (fl : Bool) (xs : List (List PV)) (hx : xs.length ≤ 1000) : RetO Tryz.prog 20 [.vec 1 fl xs] 1 xs := by
  refine RetO.of hmix hf20 (by simp) fun w0 F0 => ?_
  unfold m20
  simp [rs20]
  omega
theorem cl59 (fl : Bool) (xs : List (List PV)) (hx : xs.length ≤ 1000) : RetO Tryz.prog 59 [.vec 2 fl xs] 2 xs := by
  refine RetO.of hmix hf59 (by simp) fun w0 F0 => ?_
  unfold m59
  simp [rs59]
  omega
theorem cl60 (fl : Bool) (xs : List (List PV)) (hx : xs.length ≤ 1000) : RetO Tryz.prog 60 [.vec 11 fl xs] 11 xs := by
  refine RetO.of hmix hf60 (by simp) fun w0 F0 => ?_
  unfold m60
  simp [rs60]
  omega
theorem cl61 (fl : Bool) (xs : List (List PV)) (hx : xs.length ≤ 1000) : RetO Tryz.prog 61 [.vec 12 fl xs] 12 xs := by
  refine RetO.of hmix hf61 (by simp) fun w0 F0 => ?_
  unfold m61
  simp [rs61]
  omega
theorem cl62 (fl : Bool) (xs : List (List PV)) (hx : xs.length ≤ 1000) : RetO Tryz.prog 62 [.vec 1 fl xs] 1 xs := by
  refine RetO.of hmix hf62 (by simp) fun w0 F0 => ?_
  unfold m62
  simp [rs62]
  omega
theorem cl63 (fl : Bool) (xs : List (List PV)) (hx : xs.length ≤ 1000) : RetO Tryz.prog 63 [.vec 9 fl xs] 9 xs := by
  refine RetO.of hmix hf63 (by simp) fun w0 F0 => ?_
  unfold m63
  simp [rs63]
  omega
end Go.Proofs.YtjeegophpmpibaaGreatDoor.Pv
