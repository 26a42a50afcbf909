/- What StoreNone's row asks of the program, part 4. -/
import Derived.Test.YtlijlapkhimaoaaGreatDoorRows
import Derived.JoinedOf
import Derived.SevenTiedAt
namespace Go.Proofs.YtlijlapkhimaoaaGreatDoor
open Go
theorem w13 : (Rows.storeNoneRow.named == Tryz.prog.varsNamed 3) = true := by kernel_rfl

end Go.Proofs.YtlijlapkhimaoaaGreatDoor
