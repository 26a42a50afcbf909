/- What ScriptSame's row asks of the program, part 3. -/
import Derived.Test.YtcjbpaiomcfgnaaGreatDoorRows
import Derived.JoinedOf
import Derived.SevenTiedAt
namespace Go.Proofs.YtcjbpaiomcfgnaaGreatDoor
open Go
theorem w12 : (Rows.scriptSameRow.recurses == Tryz.prog.recurses 5) = true := by kernel_rfl
end Go.Proofs.YtcjbpaiomcfgnaaGreatDoor
