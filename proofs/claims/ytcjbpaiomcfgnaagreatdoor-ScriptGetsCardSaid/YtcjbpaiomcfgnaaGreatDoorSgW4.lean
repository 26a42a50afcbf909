/- Which package variables are named, part 4: printed by gen_wnw.py -/
import Derived.Test.YtcjbpaiomcfgnaaGreatDoorRows
import Derived.JoinedOf
import Derived.SevenTiedAt
import Derived.Test.YtcjbpaiomcfgnaaGreatDoorSgV2
import Derived.Test.YtcjbpaiomcfgnaaGreatDoorSgV3
namespace Go.Proofs.YtcjbpaiomcfgnaaGreatDoor
open Go
theorem varsNamed_of {P : Program} {f : FuncId} {L : List String} {CL A : List Nat} {B : List String} (hc : P.closure f = CL) (hA : CL.flatMap (fun g => ((P.funcs[g]?).bind (·.body)).elim [] Code.globalsNamed) = A) (hB : CL.filterMap (fun g => (P.funcs[g]?).bind fun fn => if fn.body.isNone then entryReads.lookup fn.name else none) = B)
  (h : (L == ((A.eraseDups).filterMap (fun g => (P.globals[g]?).map (·.name)) ++ B).eraseDups) = true) : (L == P.varsNamed f) = true := by
 unfold Program.varsNamed
 rw [hc, hA, hB]
 exact h
theorem segs : wnCL.flatMap (fun g => ((Tryz.prog.funcs[g]?).bind (·.body)).elim [] Code.globalsNamed) = [] ++ ([1, 2, 4, 5, 6, 3, 3, 3] ++ ([0, 0] ++ ([] ++ ([] ++ ([] ++ ([] ++ ([]))))))) := by
 unfold wnCL
 simp only [List.flatMap_append, seg0, seg1, seg2, seg3, seg4, seg5, seg6, seg7]
theorem segB : wnCL.filterMap (fun g => (Tryz.prog.funcs[g]?).bind fun fn => if fn.body.isNone then entryReads.lookup fn.name else none) = ["internal/bytealg.MaxLen"] := by kernel_rfl
theorem w13 : (Rows.scriptGetsRow.named == Tryz.prog.varsNamed 4) = true := varsNamed_of clos_eq segs segB (by kernel_rfl)
end Go.Proofs.YtcjbpaiomcfgnaaGreatDoor
