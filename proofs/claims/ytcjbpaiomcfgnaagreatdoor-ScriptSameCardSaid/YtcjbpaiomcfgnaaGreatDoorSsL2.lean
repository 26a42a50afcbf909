/- How ScriptSame's program is laid out, part 2: printed by gen_wnw.py -/
import Derived.Test.YtcjbpaiomcfgnaaGreatDoorRows
import Derived.JoinedOf
import Derived.SevenTiedAt
namespace Go.Proofs.YtcjbpaiomcfgnaaGreatDoor
open Go
theorem laid3 : (List.range' 384 128).all (rowFine Tryz.prog) = true := by kernel_rfl
theorem laid4 : (List.range' 512 128).all (rowFine Tryz.prog) = true := by kernel_rfl
theorem laid5 : (List.range' 640 124).all (rowFine Tryz.prog) = true := by kernel_rfl
end Go.Proofs.YtcjbpaiomcfgnaaGreatDoor
