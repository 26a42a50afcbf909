/- What WorldNone's row asks of the program, part 2. -/
import Derived.Test.YtpifcidnpbkaoaaGreatDoorRows
import Derived.JoinedOf
import Derived.SevenTiedAt
namespace Go.Proofs.YtpifcidnpbkaoaaGreatDoor
open Go
theorem w10 : (Rows.worldNoneRow.inPlace == Tryz.prog.inPlace 3) = true := by kernel_rfl
theorem w11 : (Rows.worldNoneRow.unfollowed == Tryz.prog.unfollowed 3) = true := by kernel_rfl

end Go.Proofs.YtpifcidnpbkaoaaGreatDoor
