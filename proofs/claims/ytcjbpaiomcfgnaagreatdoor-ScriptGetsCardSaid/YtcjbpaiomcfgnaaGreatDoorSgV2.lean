/- Which package variables are named, part 2: printed by gen_wnw.py -/
import Derived.Test.YtcjbpaiomcfgnaaGreatDoorRows
import Derived.JoinedOf
import Derived.SevenTiedAt
import Derived.Test.YtcjbpaiomcfgnaaGreatDoorSgV1
namespace Go.Proofs.YtcjbpaiomcfgnaaGreatDoor
open Go
theorem seg0 : wnC0.flatMap (fun g => ((Tryz.prog.funcs[g]?).bind (·.body)).elim [] Code.globalsNamed) = [] := by kernel_rfl
theorem seg1 : wnC1.flatMap (fun g => ((Tryz.prog.funcs[g]?).bind (·.body)).elim [] Code.globalsNamed) = [1, 2, 4, 5, 6, 3, 3, 3] := by kernel_rfl
theorem seg2 : wnC2.flatMap (fun g => ((Tryz.prog.funcs[g]?).bind (·.body)).elim [] Code.globalsNamed) = [0, 0] := by kernel_rfl
theorem seg3 : wnC3.flatMap (fun g => ((Tryz.prog.funcs[g]?).bind (·.body)).elim [] Code.globalsNamed) = [] := by kernel_rfl
end Go.Proofs.YtcjbpaiomcfgnaaGreatDoor
