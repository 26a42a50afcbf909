/- The tie, facts 3: the variables' run ends. -/
import Derived.Test.YtcjbpaiomcfgnaaGreatDoorRows
import Derived.LaidByTextLater
import Derived.SevenTiedAt
namespace Go.Proofs.YtcjbpaiomcfgnaaGreatDoor
open Go
theorem k_hd : ∀ os tape, varsDone Tryz.prog 400 (varsId Tryz.prog) os tape = true := fun _ _ => by kernel_rfl
end Go.Proofs.YtcjbpaiomcfgnaaGreatDoor
