/- What ScriptPuts's card asks of the program. -/
import Derived.Test.YtcjbpaiomcfgnaaGreatDoorRows
import Derived.JoinedOf
import Derived.SevenTiedAt
import Derived.Test.YtcjbpaiomcfgnaaGreatDoorCards
namespace Go.Proofs.YtcjbpaiomcfgnaaGreatDoor
open Go
theorem x_named : Tryz.prog.funcNamed Rows.scriptPutsRow.func = some 3 := by kernel_rfl
theorem x_wf : Rows.scriptPutsRow.wfByText (OpenSpec.ofChange Rows.scriptPutsSpec) = true := by kernel_rfl
theorem x_main : Tryz.prog.mainIs = some (Rows.scriptPutsCard.stood.harness.1, Rows.scriptPutsCard.stood.harness.2.toList) := by kernel_rfl
theorem x_stand : ([23, 24].all fun u => !Tryz.prog.wantsStandIn u) = true := by kernel_rfl
end Go.Proofs.YtcjbpaiomcfgnaaGreatDoor
