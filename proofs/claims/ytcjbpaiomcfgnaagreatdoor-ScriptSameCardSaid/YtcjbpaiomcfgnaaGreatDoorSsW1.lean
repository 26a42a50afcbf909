/- What ScriptSame's row asks of the program, part 1. -/
import Derived.Test.YtcjbpaiomcfgnaaGreatDoorRows
import Derived.JoinedOf
import Derived.SevenTiedAt
import Derived.Test.YtcjbpaiomcfgnaaGreatDoorSsL1
import Derived.Test.YtcjbpaiomcfgnaaGreatDoorSsL2
namespace Go.Proofs.YtcjbpaiomcfgnaaGreatDoor
open Go
theorem laid_of {P : Program} (h : ∀ i, i < P.types.size → rowFine P i = true) (g : P.globals.toList.all (fun g => decide (g.type < P.types.size)) = true) (f : P.funcs.toList.all (fun f => f.params.all fun t => decide (t < P.types.size)) = true) : laidOutB P = true := by
 unfold laidOutB
 rw [Bool.and_eq_true, Bool.and_eq_true]
 refine ⟨⟨?_, ?_⟩, ?_⟩
 ·exact List.all_eq_true.2 fun i hi => h i (List.mem_range.1 hi)
 ·rw [← Array.all_toList]; exact g
 ·rw [← Array.all_toList]; exact f
theorem types_size : Tryz.prog.types.size = 764 := by kernel_rfl
theorem globals_fit : Tryz.prog.globals.toList.all (fun g => decide (g.type < 764)) = true := by kernel_rfl
theorem params_fit : Tryz.prog.funcs.toList.all (fun f => f.params.all fun t => decide (t < 764)) = true := by kernel_rfl
theorem w1 : Rows.scriptSameRow.wf (OpenSpec.ofChange Rows.scriptSameSpec) = true := by kernel_rfl
theorem w2 : laidOutB Tryz.prog = true := laid_of (fun i hi => by
 rw [types_size] at hi
 by_cases h0 : i < 128
 ·exact List.all_eq_true.1 laid0 i (by rw [List.mem_range'_1]; omega)
 by_cases h1 : i < 256
 ·exact List.all_eq_true.1 laid1 i (by rw [List.mem_range'_1]; omega)
 by_cases h2 : i < 384
 ·exact List.all_eq_true.1 laid2 i (by rw [List.mem_range'_1]; omega)
 by_cases h3 : i < 512
 ·exact List.all_eq_true.1 laid3 i (by rw [List.mem_range'_1]; omega)
 by_cases h4 : i < 640
 ·exact List.all_eq_true.1 laid4 i (by rw [List.mem_range'_1]; omega)
 exact List.all_eq_true.1 laid5 i (by rw [List.mem_range'_1]; omega)) (by rw [types_size]; exact globals_fit) (by rw [types_size]; exact params_fit)
theorem w3 : mapsRowed Tryz.prog = true := by kernel_rfl
theorem w4 : Tryz.f5.params.all (Tryz.prog.readableRec ·) = true := by kernel_rfl
theorem w5 : namedTie Tryz.prog Rows.scriptSameRow.named Rows.scriptSameSpec.vars = true := by kernel_rfl
theorem w6 : (Rows.scriptSameRow.stops == []) = true := by kernel_rfl
theorem w7 : (Tryz.prog.stops == []) = true := by kernel_rfl
theorem w8 : (Rows.scriptSameRow.knobs == []) = true := by kernel_rfl
theorem w9 : (Tryz.prog.stopKnobs == []) = true := by kernel_rfl
end Go.Proofs.YtcjbpaiomcfgnaaGreatDoor
