/- What ScriptSame's row asks of the program, part 6. -/
import Derived.Test.YtcjbpaiomcfgnaaGreatDoorRows
import Derived.JoinedOf
import Derived.SevenTiedAt
namespace Go.Proofs.YtcjbpaiomcfgnaaGreatDoor
open Go
theorem w25 : Tryz.prog.stopsHeard = true := by kernel_rfl
theorem w26 : Tryz.prog.mayEnter = true := by kernel_rfl
end Go.Proofs.YtcjbpaiomcfgnaaGreatDoor
