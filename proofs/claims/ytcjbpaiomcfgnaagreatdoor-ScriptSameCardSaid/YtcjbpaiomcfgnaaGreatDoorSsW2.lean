/- What ScriptSame's row asks of the program, part 2. -/
import Derived.Test.YtcjbpaiomcfgnaaGreatDoorRows
import Derived.JoinedOf
import Derived.SevenTiedAt
import Derived.Test.YtcjbpaiomcfgnaaGreatDoorSsV1
namespace Go.Proofs.YtcjbpaiomcfgnaaGreatDoor
open Go
theorem w10 : (Rows.scriptSameRow.inPlace == Tryz.prog.inPlace 5) = true := by
 unfold Program.inPlace
 rw [clos_eq]
 kernel_rfl
theorem w11 : (Rows.scriptSameRow.unfollowed == Tryz.prog.unfollowed 5) = true := by
 unfold Program.unfollowed
 rw [clos_eq]
 kernel_rfl
end Go.Proofs.YtcjbpaiomcfgnaaGreatDoor
