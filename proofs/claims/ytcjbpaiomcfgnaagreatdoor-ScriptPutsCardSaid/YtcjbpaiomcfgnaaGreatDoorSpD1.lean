/- The world in which start-up has laid the variables: what it lays. -/
import Derived.Test.YtcjbpaiomcfgnaaGreatDoorRows
import Derived.WalkKit
import Derived.ProofKit
import Derived.LaidMore
import Derived.OpenShut
namespace Go.Proofs.YtcjbpaiomcfgnaaGreatDoor
open Go Go.ChangeShapes Go.WideShapes Go.ChangeAt Go.RowKit
theorem d_f1 (os : Os) (args : Array Value) : (DataW.laidRun Tryz.prog ((World.doorLaid Tryz.prog 4000 os).forCall (fun _ _ => 0) ⟨#[], args, []⟩).memory 8 ((Rows.scriptPutsRow.laid.filter fun x => x.2.handleName?.isNone).map (·.1))).map (·.1) = some (Rows.scriptPutsRow.laid.filter fun x => x.2.handleName?.isNone) := by kernel_rfl
theorem d_f3 (os : Os) (args : Array Value) : ((Rows.scriptPutsRow.laid.filter fun x => x.2.handleName?.isSome && x.2.funcsIn?.isNone).all (handleAtB Tryz.prog ((World.doorLaid Tryz.prog 4000 os).forCall (fun _ _ => 0) ⟨#[], args, []⟩).memory)) = true := by kernel_rfl
theorem d_f4 (os : Os) (args : Array Value) : funcsRun Tryz.prog ((World.doorLaid Tryz.prog 4000 os).forCall (fun _ _ => 0) ⟨#[], args, []⟩).memory 8 ((funcsListed Rows.scriptPutsRow.laid).map (·.1)) = some ((funcsListed Rows.scriptPutsRow.laid).map (·.2.funcsOut)) := by kernel_rfl
end Go.Proofs.YtcjbpaiomcfgnaaGreatDoor
