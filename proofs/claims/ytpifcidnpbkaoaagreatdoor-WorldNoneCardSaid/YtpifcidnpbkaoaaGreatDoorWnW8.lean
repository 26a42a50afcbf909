/- What WorldNone's card asks of the program. -/
import Derived.Test.YtpifcidnpbkaoaaGreatDoorRows
import Derived.JoinedOf
import Derived.SevenTiedAt
import Derived.Test.YtpifcidnpbkaoaaGreatDoorCards
namespace Go.Proofs.YtpifcidnpbkaoaaGreatDoor
open Go
theorem x_named : Tryz.prog.funcNamed Rows.worldNoneRow.func = some 3 := by kernel_rfl
theorem x_wf : Rows.worldNoneRow.wfByText (OpenSpec.ofChange Rows.worldNoneSpec) = true := by kernel_rfl
theorem x_main : Tryz.prog.mainIs = some (Rows.worldNoneCard.stood.harness.1, Rows.worldNoneCard.stood.harness.2.toList) := by kernel_rfl
theorem x_stand : ([23, 32].all fun u => !Tryz.prog.wantsStandIn u) = true := by kernel_rfl

end Go.Proofs.YtpifcidnpbkaoaaGreatDoor
