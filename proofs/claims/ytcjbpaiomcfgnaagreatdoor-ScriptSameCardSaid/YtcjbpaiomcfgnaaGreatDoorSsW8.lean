/- What ScriptSame's card asks of the program. -/
import Derived.Test.YtcjbpaiomcfgnaaGreatDoorRows
import Derived.JoinedOf
import Derived.SevenTiedAt
import Derived.Test.YtcjbpaiomcfgnaaGreatDoorCards
namespace Go.Proofs.YtcjbpaiomcfgnaaGreatDoor
open Go
theorem x_named : Tryz.prog.funcNamed Rows.scriptSameRow.func = some 5 := by kernel_rfl
theorem x_wf : Rows.scriptSameRow.wfByText (OpenSpec.ofChange Rows.scriptSameSpec) = true := by kernel_rfl
theorem x_main : Tryz.prog.mainIs = some (Rows.scriptSameCard.stood.harness.1, Rows.scriptSameCard.stood.harness.2.toList) := by kernel_rfl
theorem x_stand : ([47, 47].all fun u => !Tryz.prog.wantsStandIn u) = true := by kernel_rfl
end Go.Proofs.YtcjbpaiomcfgnaaGreatDoor
