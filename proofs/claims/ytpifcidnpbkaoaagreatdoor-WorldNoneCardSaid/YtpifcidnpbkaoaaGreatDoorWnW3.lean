/- What WorldNone's row asks of the program, part 3. -/
import Derived.Test.YtpifcidnpbkaoaaGreatDoorRows
import Derived.JoinedOf
import Derived.SevenTiedAt
namespace Go.Proofs.YtpifcidnpbkaoaaGreatDoor
open Go
theorem w12 : (Rows.worldNoneRow.recurses == Tryz.prog.recurses 3) = true := by kernel_rfl

end Go.Proofs.YtpifcidnpbkaoaaGreatDoor
