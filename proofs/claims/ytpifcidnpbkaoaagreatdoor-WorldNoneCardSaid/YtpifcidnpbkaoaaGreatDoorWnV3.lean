/- Which package variables are named, part 3: printed by gen_wnw.py -/
import Derived.Test.YtpifcidnpbkaoaaGreatDoorRows
import Derived.JoinedOf
import Derived.SevenTiedAt
import Derived.Test.YtpifcidnpbkaoaaGreatDoorWnV1
namespace Go.Proofs.YtpifcidnpbkaoaaGreatDoor
open Go
theorem seg3 : wnC3.flatMap (fun g => ((Tryz.prog.funcs[g]?).bind (·.body)).elim [] Code.globalsNamed) = [1, 2, 4, 5, 6] := by kernel_rfl
theorem seg4 : wnC4.flatMap (fun g => ((Tryz.prog.funcs[g]?).bind (·.body)).elim [] Code.globalsNamed) = [3, 3, 3] := by kernel_rfl
theorem seg5 : wnC5.flatMap (fun g => ((Tryz.prog.funcs[g]?).bind (·.body)).elim [] Code.globalsNamed) = [] := by kernel_rfl

end Go.Proofs.YtpifcidnpbkaoaaGreatDoor
