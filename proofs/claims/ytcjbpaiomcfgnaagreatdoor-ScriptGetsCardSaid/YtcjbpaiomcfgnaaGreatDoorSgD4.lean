/- That world: the door's own blocks; an input. -/
import Derived.Test.YtcjbpaiomcfgnaaGreatDoorRows
import Derived.WalkKit
import Derived.ProofKit
import Derived.LaidMore
import Derived.OpenShut
import Derived.Test.YtcjbpaiomcfgnaaGreatDoorSgD3
namespace Go.Proofs.YtcjbpaiomcfgnaaGreatDoor
open Go Go.ChangeShapes Go.WideShapes Go.ChangeAt Go.RowKit
theorem d_f6 (os : Os) : (((World.doorLaid Tryz.prog 4000 os).forCall (fun _ _ => 0) ⟨#[], args0, []⟩).heap.toList.drop Tryz.prog.globals.size).take ((begin Tryz.prog (fun _ _ => 0) default).world.heap.size - Tryz.prog.globals.size) =
  (begin Tryz.prog (fun _ _ => 0) default).world.heap.toList.drop Tryz.prog.globals.size := by kernel_rfl
end Go.Proofs.YtcjbpaiomcfgnaaGreatDoor
namespace Go.Proofs.YtcjbpaiomcfgnaaGreatDoor
open Go Go.ChangeShapes Go.WideShapes Go.ChangeAt Go.RowKit
theorem d_f7 (os : Os) : Input.okWideB Tryz.checked.prog ((World.doorLaid Tryz.prog 4000 os).forCall (fun _ _ => 0) ⟨#[], args0, []⟩) 4 ⟨#[], args0, []⟩ = true := by kernel_rfl
theorem d_f8 {H : Type} (enc : TypeId × Value → H) (os : Os) : Rows.scriptGetsSpec.preB enc Tryz.checked.prog Tryz.f4 [] false ((World.doorLaid Tryz.prog 4000 os).forCall (fun _ _ => 0) ⟨#[], args0, []⟩).memory args0 8 = true := by kernel_rfl
theorem d_f9 {H : Type} (enc : TypeId × Value → H) (os : Os) : Rows.scriptGetsSpec.sizedB enc Tryz.checked.prog Tryz.f4 false ((World.doorLaid Tryz.prog 4000 os).forCall (fun _ _ => 0) ⟨#[], args0, []⟩).memory args0 8 = true := by kernel_rfl
end Go.Proofs.YtcjbpaiomcfgnaaGreatDoor
