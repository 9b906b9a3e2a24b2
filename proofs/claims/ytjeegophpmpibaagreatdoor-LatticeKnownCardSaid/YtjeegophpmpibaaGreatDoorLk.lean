/- The call of LatticeKnown returns true, in whatever memory: by the evaluator of the Pv texts, run by the kernel. No condition. -/
import Derived.Test.YtjeegophpmpibaaGreatDoorCl
namespace Go.Proofs.YtjeegophpmpibaaGreatDoor.Pv
open Go
/-- The known contracts: slices.Clone at its six types. -/
def X0 : Ext := fun f args => match args with
  | [.vec e _ xs] => if (f == 20 && e == 1 || f == 59 && e == 2 || f == 60 && e == 11 || f == 61 && e == 12 || f == 62 && e == 1 || f == 63 && e == 9) && Nat.ble xs.length 1000 then some (.own e xs) else none
  | _ => none
theorem X0_ok : CpOk Tryz.prog X0 := fun f args => by
  have key : ∀ r, X0 f args = some r → ∃ e fl xs, args = [.vec e fl xs] ∧ r = .own e xs ∧ RetO Tryz.prog f [.vec e fl xs] e xs := fun r h => by
    unfold X0 at h
    split at h
    · rename_i e fl xs
      split at h
      · rename_i hc
        cases h
        refine ⟨e, fl, xs, rfl, rfl, ?_⟩
        simp only [Bool.and_eq_true, Bool.or_eq_true, beq_iff_eq] at hc
        obtain ⟨hc, hl⟩ := hc
        have hl := Nat.le_of_ble_eq_true hl
        rcases hc with ((((⟨rfl, rfl⟩ | ⟨rfl, rfl⟩) | ⟨rfl, rfl⟩) | ⟨rfl, rfl⟩) | ⟨rfl, rfl⟩) | ⟨rfl, rfl⟩
        · exact cl20 fl xs hl
        · exact cl59 fl xs hl
        · exact cl60 fl xs hl
        · exact cl61 fl xs hl
        · exact cl62 fl xs hl
        · exact cl63 fl xs hl
      · cases h
    · cases h
  refine ⟨fun r h => ?_, fun esz xs h => ?_⟩
  · obtain ⟨_, _, _, _, hr, _⟩ := key _ h
    cases hr
  · obtain ⟨e, fl, ys, ha, hr, hk⟩ := key _ h
    cases hr
    rw [ha]; exact hk
def md (f : Nat) : Bool := [126, 128, 146, 147, 45, 46, 47, 48, 64, 65, 66, 67, 117, 118].contains f
def isTrue (r : Option Res) : Bool := match r with
  | some (.val (.bool b)) => b
  | _ => false
set_option maxRecDepth 1000000 in
theorem run3 : isTrue (cpIn tab (ev X0 tab md 1000) 3 []) = true := by kernel_rfl
theorem ret3 : Ret Tryz.prog 3 [] (.bool true) := by
  have h := run3
  have hok := (cpIn_ok tab_ok (ev_ok (mode := md) X0_ok hmix tab_ok 1000)) 3 []
  generalize cpIn tab (ev X0 tab md 1000) 3 [] = r at h hok
  match r, h with
  | some (.val (.bool true)), _ => exact hok.1 _ rfl
end Go.Proofs.YtjeegophpmpibaaGreatDoor.Pv
