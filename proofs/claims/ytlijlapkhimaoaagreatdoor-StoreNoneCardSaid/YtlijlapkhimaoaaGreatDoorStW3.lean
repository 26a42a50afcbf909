/- What StoreNone's row asks of the program, part 3. -/
import Derived.Test.YtlijlapkhimaoaaGreatDoorRows
import Derived.JoinedOf
import Derived.SevenTiedAt
namespace Go.Proofs.YtlijlapkhimaoaaGreatDoor
open Go
theorem w12 : (Rows.storeNoneRow.recurses == Tryz.prog.recurses 3) = true := by kernel_rfl

end Go.Proofs.YtlijlapkhimaoaaGreatDoor
