/- Part 14. -/
import Derived.Test.YtbdogkmdanmojaaGreatDoorV11
set_option linter.unusedSimpArgs false
set_option linter.unusedVariables false
namespace Go.Proofs.YtbdogkmdanmojaaGreatDoor.Pv
open Go
set_option maxRecDepth 1000000 in
theorem run_index:Ret prog M.F_rules_Index [.agg obC,.agg (txC ⟨#[97]⟩)] (.tup [.agg (nmC ⟨#[49]⟩ ⟨#[51]⟩),.agg nvC,.int .i64 0]):=ev_ret (by kernel_rfl)
end Go.Proofs.YtbdogkmdanmojaaGreatDoor.Pv
