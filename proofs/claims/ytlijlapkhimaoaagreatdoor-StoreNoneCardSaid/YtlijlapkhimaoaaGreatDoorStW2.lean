/- What StoreNone's row asks of the program, part 2. -/
import Derived.Test.YtlijlapkhimaoaaGreatDoorRows
import Derived.JoinedOf
import Derived.SevenTiedAt
namespace Go.Proofs.YtlijlapkhimaoaaGreatDoor
open Go
theorem w10 : (Rows.storeNoneRow.inPlace == Tryz.prog.inPlace 3) = true := by kernel_rfl
theorem w11 : (Rows.storeNoneRow.unfollowed == Tryz.prog.unfollowed 3) = true := by kernel_rfl

end Go.Proofs.YtlijlapkhimaoaaGreatDoor
