/- How ScriptSame's program is laid out, part 1: printed by gen_wnw.py -/
import Derived.Test.YtcjbpaiomcfgnaaGreatDoorRows
import Derived.JoinedOf
import Derived.SevenTiedAt
namespace Go.Proofs.YtcjbpaiomcfgnaaGreatDoor
open Go
theorem laid0 : (List.range' 0 128).all (rowFine Tryz.prog) = true := by kernel_rfl
theorem laid1 : (List.range' 128 128).all (rowFine Tryz.prog) = true := by kernel_rfl
theorem laid2 : (List.range' 256 128).all (rowFine Tryz.prog) = true := by kernel_rfl
end Go.Proofs.YtcjbpaiomcfgnaaGreatDoor
