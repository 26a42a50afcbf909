/- That world: its shape. -/
import Derived.Test.YtcjbpaiomcfgnaaGreatDoorRows
import Derived.WalkKit
import Derived.ProofKit
import Derived.LaidMore
import Derived.OpenShut
namespace Go.Proofs.YtcjbpaiomcfgnaaGreatDoor
open Go Go.ChangeShapes Go.WideShapes Go.ChangeAt Go.RowKit
def args0 : Array Value := #[.string ⟨#[]⟩]
theorem d_f5 (os : Os) : ((World.doorLaid Tryz.prog 4000 os).forCall (fun _ _ => 0) ⟨#[], args0, []⟩).variablesRefB Tryz.prog = true := by kernel_rfl
end Go.Proofs.YtcjbpaiomcfgnaaGreatDoor
