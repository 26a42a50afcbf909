/- What StoreNone's row asks of the program, part 1. -/
import Derived.Test.YtlijlapkhimaoaaGreatDoorRows
import Derived.JoinedOf
import Derived.SevenTiedAt
namespace Go.Proofs.YtlijlapkhimaoaaGreatDoor
open Go
theorem w1 : Rows.storeNoneRow.wf (OpenSpec.ofChange Rows.storeNoneSpec) = true := by kernel_rfl
theorem w2 : laidOutB Tryz.prog = true := by kernel_rfl
theorem w3 : mapsRowed Tryz.prog = true := by kernel_rfl
theorem w4 : Tryz.f3.params.all (Tryz.prog.readableRec ·) = true := by kernel_rfl
theorem w5 : namedTie Tryz.prog Rows.storeNoneRow.named Rows.storeNoneSpec.vars = true := by kernel_rfl
theorem w6 : (Rows.storeNoneRow.stops == []) = true := by kernel_rfl
theorem w7 : (Tryz.prog.stops == []) = true := by kernel_rfl
theorem w8 : (Rows.storeNoneRow.knobs == []) = true := by kernel_rfl
theorem w9 : (Tryz.prog.stopKnobs == []) = true := by kernel_rfl

end Go.Proofs.YtlijlapkhimaoaaGreatDoor
