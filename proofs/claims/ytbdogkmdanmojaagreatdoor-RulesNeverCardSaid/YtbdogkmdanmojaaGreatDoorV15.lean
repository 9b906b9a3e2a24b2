/- Part 15. -/
import Derived.Test.YtbdogkmdanmojaaGreatDoorV11
set_option linter.unusedSimpArgs false
set_option linter.unusedVariables false
namespace Go.Proofs.YtbdogkmdanmojaaGreatDoor.Pv
open Go
set_option maxRecDepth 1000000 in
theorem run_length:Ret prog M.F_rules_Prim [.str ⟨#[108,101,110,103,116,104]⟩,.agg obC,.vec 9 false []] (.tup [.agg (nmC ⟨#[49]⟩ ⟨#[49]⟩),.agg nvC,.int .i64 0]):=ev_ret (by kernel_rfl)
end Go.Proofs.YtbdogkmdanmojaaGreatDoor.Pv
