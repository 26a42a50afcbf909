/- Which package variables are named, part 3: printed by gen_wnw.py -/
import Derived.Test.YtcjbpaiomcfgnaaGreatDoorRows
import Derived.JoinedOf
import Derived.SevenTiedAt
import Derived.Test.YtcjbpaiomcfgnaaGreatDoorSsV1
namespace Go.Proofs.YtcjbpaiomcfgnaaGreatDoor
open Go
theorem seg4 : wnC4.flatMap (fun g => ((Tryz.prog.funcs[g]?).bind (·.body)).elim [] Code.globalsNamed) = [] := by kernel_rfl
theorem seg5 : wnC5.flatMap (fun g => ((Tryz.prog.funcs[g]?).bind (·.body)).elim [] Code.globalsNamed) = [] := by kernel_rfl
theorem seg6 : wnC6.flatMap (fun g => ((Tryz.prog.funcs[g]?).bind (·.body)).elim [] Code.globalsNamed) = [] := by kernel_rfl
theorem seg7 : wnC7.flatMap (fun g => ((Tryz.prog.funcs[g]?).bind (·.body)).elim [] Code.globalsNamed) = [] := by kernel_rfl
end Go.Proofs.YtcjbpaiomcfgnaaGreatDoor
