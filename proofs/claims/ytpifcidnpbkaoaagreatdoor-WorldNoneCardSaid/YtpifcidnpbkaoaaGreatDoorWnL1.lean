/- How WorldNone's program is laid out, part 1: printed by gen_wnw.py -/
import Derived.Test.YtpifcidnpbkaoaaGreatDoorRows
import Derived.JoinedOf
import Derived.SevenTiedAt
namespace Go.Proofs.YtpifcidnpbkaoaaGreatDoor
open Go
theorem laid0 : (List.range' 0 122).all (rowFine Tryz.prog) = true := by kernel_rfl
theorem laid1 : (List.range' 122 122).all (rowFine Tryz.prog) = true := by kernel_rfl
theorem laid2 : (List.range' 244 122).all (rowFine Tryz.prog) = true := by kernel_rfl

end Go.Proofs.YtpifcidnpbkaoaaGreatDoor
