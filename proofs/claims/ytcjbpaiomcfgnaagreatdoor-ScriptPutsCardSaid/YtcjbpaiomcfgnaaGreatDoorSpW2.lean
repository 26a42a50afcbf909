/- What ScriptPuts's row asks of the program, part 2. -/
import Derived.Test.YtcjbpaiomcfgnaaGreatDoorRows
import Derived.JoinedOf
import Derived.SevenTiedAt
import Derived.Test.YtcjbpaiomcfgnaaGreatDoorSpV1
namespace Go.Proofs.YtcjbpaiomcfgnaaGreatDoor
open Go
theorem w10 : (Rows.scriptPutsRow.inPlace == Tryz.prog.inPlace 3) = true := by
 unfold Program.inPlace
 rw [clos_eq]
 kernel_rfl
theorem w11 : (Rows.scriptPutsRow.unfollowed == Tryz.prog.unfollowed 3) = true := by
 unfold Program.unfollowed
 rw [clos_eq]
 kernel_rfl
end Go.Proofs.YtcjbpaiomcfgnaaGreatDoor
