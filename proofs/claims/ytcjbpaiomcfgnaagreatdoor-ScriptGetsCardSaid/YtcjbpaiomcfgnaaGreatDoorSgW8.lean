/- What ScriptGets's card asks of the program. -/
import Derived.Test.YtcjbpaiomcfgnaaGreatDoorRows
import Derived.JoinedOf
import Derived.SevenTiedAt
import Derived.Test.YtcjbpaiomcfgnaaGreatDoorCards
namespace Go.Proofs.YtcjbpaiomcfgnaaGreatDoor
open Go
theorem x_named : Tryz.prog.funcNamed Rows.scriptGetsRow.func = some 4 := by kernel_rfl
theorem x_wf : Rows.scriptGetsRow.wfByText (OpenSpec.ofChange Rows.scriptGetsSpec) = true := by kernel_rfl
theorem x_main : Tryz.prog.mainIs = some (Rows.scriptGetsCard.stood.harness.1, Rows.scriptGetsCard.stood.harness.2.toList) := by kernel_rfl
theorem x_stand : ([9].all fun u => !Tryz.prog.wantsStandIn u) = true := by kernel_rfl
end Go.Proofs.YtcjbpaiomcfgnaaGreatDoor
