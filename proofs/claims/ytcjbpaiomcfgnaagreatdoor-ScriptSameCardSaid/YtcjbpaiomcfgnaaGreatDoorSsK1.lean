/- The tie of the listed variables to the program's text, facts 1: the translator's words. -/
import Derived.Test.YtcjbpaiomcfgnaaGreatDoorRows
import Derived.LaidByTextLater
import Derived.SevenTiedAt
namespace Go.Proofs.YtcjbpaiomcfgnaaGreatDoor
open Go
theorem k_hw : Tryz.prog.worded (varsWordLater true) = true := by kernel_rfl
theorem k_hw' : Tryz.prog.worded (varsWordLater !true) = false := by kernel_rfl
theorem k_hroot : Tryz.prog.worded rootWordLater = true := by kernel_rfl
theorem k_hg : (Tryz.prog.funcNamed "gosem.cut.vars").isSome = true := by kernel_rfl
theorem k_own : Tryz.pinned.checked.prog.headLifts.contains "ownunsafe" = false := by kernel_rfl
end Go.Proofs.YtcjbpaiomcfgnaaGreatDoor
