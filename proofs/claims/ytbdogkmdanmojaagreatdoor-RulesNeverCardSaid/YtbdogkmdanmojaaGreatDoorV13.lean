/- Part 13. -/
import Derived.Test.YtbdogkmdanmojaaGreatDoorV11
set_option linter.unusedSimpArgs false
set_option linter.unusedVariables false
namespace Go.Proofs.YtbdogkmdanmojaaGreatDoor.Pv
open Go
set_option maxRecDepth 1000000 in
theorem run_div:Ret prog M.F_rules_Arith [.int .i64 17,.agg (nmC ⟨#[49]⟩ ⟨#[49]⟩),.agg (nmC ⟨#[48]⟩ ⟨#[48]⟩)] (.tup [.agg nvC,.agg (txC ⟨#[100,105,118,32,98,121,32,48]⟩),.int .i64 0]):=ev_ret (by kernel_rfl)
end Go.Proofs.YtbdogkmdanmojaaGreatDoor.Pv
