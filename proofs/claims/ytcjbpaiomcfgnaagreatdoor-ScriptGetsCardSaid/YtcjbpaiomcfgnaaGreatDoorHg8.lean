/- ScriptGets, run by the evaluator: scripts, put by the document; are they the same; how great. (Printed by gen_pgf.py.) -/
import Derived.Test.YtcjbpaiomcfgnaaGreatDoorHg7
namespace Go.Proofs.YtcjbpaiomcfgnaaGreatDoor
open Go Go.RowKit
set_option maxRecDepth 100000
def lm_sameL : List Lem := pickL lemS [23, 24, 25, 26, 27, 28, 30]
theorem lm_sameL_ok : LemOk lm_sameL := lem_pick (ix := [23, 24, 25, 26, 27, 28, 30]) (lemS_ok) (rfl)
def ld_sameL : List Lem := pickL lemDS [1, 2, 3, 4, 5, 6]
theorem ld_sameL_ok : LemD ld_sameL := lemD_pick (ix := [1, 2, 3, 4, 5, 6]) (lemDS_ok) (rfl)
theorem l_sameL : okLoopG Tryz.prog (prS lm_sameL stab28 slt9) [] ld_sameL (left (.x 1) (.x 3)) 20000 sameL = true := by kernel_rfl
def slt10 : List LEnt := sameL :: slt9
theorem slt10_ok (U : Int) : LoopOk Tryz.prog (AnyOk Tryz.prog U) U slt10 := okLoopG_cons mixed names (fun U => prS_ok lm_sameL_ok (stab28_ok U) (slt9_ok U)) teq_nil ld_sameL_ok l_sameL U
def lm_sameE : List Lem := [⟨[((.bin .geq .i64 (.f 0 [(.f 15 [(.x 1)])]) (.c 0)), true), ((.bin .geq .i64 (.f 0 [(.f 15 [(.x 2)])]) (.c 0)), true)], (.f 174 [(.x 1), (.x 2), (.c 0)]), true⟩]
theorem lm_sameE_ok : LemOk lm_sameE := lem_pick (ix := [22]) (lemS_ok) (by kernel_rfl)
def tq_sameE : List TEq := [⟨[((.f 173 [(.x 1), (.x 2)]), true)], (.f 173 [(.x 1), (.x 2)]), (.c 1)⟩,
 ⟨[((.f 173 [(.x 1), (.x 2)]), false)], (.f 173 [(.x 1), (.x 2)]), (.c 0)⟩,
 ⟨[((.bin .neq .i64 (.f 0 [(.x 1)]) (.f 0 [(.x 2)])), true), ((.bin .geq .i64 (.f 0 [(.f 15 [(.x 1)])]) (.c 0)), true), ((.bin .geq .i64 (.f 0 [(.f 15 [(.x 2)])]) (.c 0)), true)], (.f 173 [(.x 1), (.x 2)]), (.c 0)⟩]
theorem tq_sameE_ok : TEqOk tq_sameE := teq_pick (ix := [4, 5, 6]) (teqQ_ok) (by kernel_rfl)
theorem e_sameE : okEntG Tryz.prog (prS lm_sameE stab28 slt10) tq_sameE [] false 20000 sameE = true := by kernel_rfl
def stab29 : List Ent := sameE :: stab28
theorem stab29_ok (U : Int) : TabOk Tryz.prog (AnyOk Tryz.prog U) U stab29 := okEntG_cons mixed names (prS_ok lm_sameE_ok (stab28_ok U) (slt10_ok U)) tq_sameE_ok lemD_nil e_sameE (stab28_ok U)
end Go.Proofs.YtcjbpaiomcfgnaaGreatDoor
