/- The tie, facts 4: what the run lays. -/
import Derived.Test.YtcjbpaiomcfgnaaGreatDoorRows
import Derived.LaidByTextLater
import Derived.SevenTiedAt
import Derived.Test.YtcjbpaiomcfgnaaGreatDoorSsK2
namespace Go.Proofs.YtcjbpaiomcfgnaaGreatDoor
open Go
theorem k_h1 : ∀ os tape, (DataW.laidRun Tryz.prog (varsWorld Tryz.prog 400 (varsId Tryz.prog) os tape).memory 8 (laidV.map (·.1))).map (·.1) = some laidV := fun _ _ => by kernel_rfl
end Go.Proofs.YtcjbpaiomcfgnaaGreatDoor
