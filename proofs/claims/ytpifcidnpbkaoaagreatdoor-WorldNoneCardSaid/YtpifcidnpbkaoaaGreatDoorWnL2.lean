/- How WorldNone's program is laid out, part 2: printed by gen_wnw.py -/
import Derived.Test.YtpifcidnpbkaoaaGreatDoorRows
import Derived.JoinedOf
import Derived.SevenTiedAt
namespace Go.Proofs.YtpifcidnpbkaoaaGreatDoor
open Go
theorem laid3 : (List.range' 366 122).all (rowFine Tryz.prog) = true := by kernel_rfl
theorem laid4 : (List.range' 488 122).all (rowFine Tryz.prog) = true := by kernel_rfl
theorem laid5 : (List.range' 610 119).all (rowFine Tryz.prog) = true := by kernel_rfl

end Go.Proofs.YtpifcidnpbkaoaaGreatDoor
