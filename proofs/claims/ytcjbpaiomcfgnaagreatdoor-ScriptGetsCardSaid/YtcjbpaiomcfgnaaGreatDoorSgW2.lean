/- What ScriptGets's row asks of the program, part 2. -/
import Derived.Test.YtcjbpaiomcfgnaaGreatDoorRows
import Derived.JoinedOf
import Derived.SevenTiedAt
import Derived.Test.YtcjbpaiomcfgnaaGreatDoorSgV1
namespace Go.Proofs.YtcjbpaiomcfgnaaGreatDoor
open Go
theorem w10 : (Rows.scriptGetsRow.inPlace == Tryz.prog.inPlace 4) = true := by
 unfold Program.inPlace
 rw [clos_eq]
 kernel_rfl
theorem w11 : (Rows.scriptGetsRow.unfollowed == Tryz.prog.unfollowed 4) = true := by
 unfold Program.unfollowed
 rw [clos_eq]
 kernel_rfl
end Go.Proofs.YtcjbpaiomcfgnaaGreatDoor
