/- What StoreNone's card asks of the program. -/
import Derived.Test.YtlijlapkhimaoaaGreatDoorRows
import Derived.JoinedOf
import Derived.SevenTiedAt
import Derived.Test.YtlijlapkhimaoaaGreatDoorCards
namespace Go.Proofs.YtlijlapkhimaoaaGreatDoor
open Go
theorem x_named : Tryz.prog.funcNamed Rows.storeNoneRow.func = some 3 := by kernel_rfl
theorem x_wf : Rows.storeNoneRow.wfByText (OpenSpec.ofChange Rows.storeNoneSpec) = true := by kernel_rfl
theorem x_main : Tryz.prog.mainIs = some (Rows.storeNoneCard.stood.harness.1, Rows.storeNoneCard.stood.harness.2.toList) := by kernel_rfl
theorem x_stand : ([28, 24, 9].all fun u => !Tryz.prog.wantsStandIn u) = true := by kernel_rfl

end Go.Proofs.YtlijlapkhimaoaaGreatDoor
