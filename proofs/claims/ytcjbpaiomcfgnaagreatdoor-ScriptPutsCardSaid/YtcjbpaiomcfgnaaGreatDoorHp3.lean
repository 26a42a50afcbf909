/- ScriptPuts, run by the evaluator: scripts, read by the program. (Printed by gen_pgf.py.) -/
import Derived.Test.YtcjbpaiomcfgnaaGreatDoorHp2
namespace Go.Proofs.YtcjbpaiomcfgnaaGreatDoor
open Go Go.RowKit
set_option maxRecDepth 100000
def lm_linesW : List Lem := pickL lemS [39, 40, 58, 59, 60, 61]
theorem lm_linesW_ok : LemOk lm_linesW := lem_pick (ix := [39, 40, 58, 59, 60, 61]) (lemS_ok) (rfl)
def ld_linesW : List Lem := pickL lemDS [17, 18, 19]
theorem ld_linesW_ok : LemD ld_linesW := lemD_pick (ix := [17, 18, 19]) (lemDS_ok) (rfl)
def tq_linesW : List TEq := [⟨[((.bin .gtr .u64 (.x 2) (.c 0)), false), ((.bin .leq .i64 (.f 0 [(.x 0)]) (.c 1000000000000000)), true)], (.f 112 [(.f 120 [(.x 0), (.x 1), (.x 2)])]), (.f 112 [(.x 1)])⟩,
 ⟨[((.bin .gtr .u64 (.x 2) (.c 0)), false), ((.bin .leq .i64 (.f 0 [(.x 0)]) (.c 1000000000000000)), true)], (.f 113 [(.f 120 [(.x 0), (.x 1), (.x 2)])]), (.f 113 [(.x 1)])⟩,
 ⟨[((.bin .gtr .u64 (.x 2) (.c 0)), true), ((.bin .leq .u64 (.x 2) (.c 16)), true)], (.f 120 [(.x 0), (.x 1), (.x 2)]), (.f 120 [(.x 0), (.f 117 [(.x 0), (.f 117 [(.x 0), (.x 1)])]), (.bin .sub .u64 (.x 2) (.c 1))])⟩]
theorem tq_linesW_ok : TEqOk tq_linesW := teq_pick (ix := [367, 368, 370]) (teqQ_ok) (by kernel_rfl)
theorem l_linesW : okLoopG Tryz.prog (prS lm_linesW stab13 []) tq_linesW ld_linesW (.x 2) 20000 linesW = true := by kernel_rfl
def slt1 : List LEnt := linesW :: []
theorem slt1_ok (U : Int) : LoopOk Tryz.prog (AnyOk Tryz.prog U) U slt1 := okLoopG_cons mixed names (fun U => prS_ok lm_linesW_ok (stab13_ok U) lt_nil) tq_linesW_ok ld_linesW_ok l_linesW U
def lm_actW : List Lem := pickL lemS [53, 54, 55]
theorem lm_actW_ok : LemOk lm_actW := lem_pick (ix := [53, 54, 55]) (lemS_ok) (rfl)
def ld_actW : List Lem := pickL lemDS [14, 15, 16]
theorem ld_actW_ok : LemD ld_actW := lemD_pick (ix := [14, 15, 16]) (lemDS_ok) (rfl)
def tq_actW : List TEq := pickL teqQ [371, 372, 373, 374, 375, 376, 377, 378, 379, 380, 381, 382, 383, 384, 385, 386, 387, 388, 389, 390, 391, 392, 393, 394, 395, 396]
theorem tq_actW_ok : TEqOk tq_actW := teq_pick (ix := [371, 372, 373, 374, 375, 376, 377, 378, 379, 380, 381, 382, 383, 384, 385, 386, 387, 388, 389, 390, 391, 392, 393, 394, 395, 396]) (teqQ_ok) (rfl)
theorem e_actW : okEntG Tryz.prog (prS lm_actW stab13 slt1) tq_actW ld_actW true 20000 actW = true := by kernel_rfl
def stab14 : List Ent := actW :: stab13
theorem stab14_ok (U : Int) : TabOk Tryz.prog (AnyOk Tryz.prog U) U stab14 := okEntG_cons mixed names (prS_ok lm_actW_ok (stab13_ok U) (slt1_ok U)) tq_actW_ok ld_actW_ok e_actW (stab13_ok U)
def lm_actsW : List Lem := pickL lemS [39, 40, 41, 65, 66, 67]
theorem lm_actsW_ok : LemOk lm_actsW := lem_pick (ix := [39, 40, 41, 65, 66, 67]) (lemS_ok) (rfl)
def ld_actsW : List Lem := pickL lemDS [20, 21, 22, 23]
theorem ld_actsW_ok : LemD ld_actsW := lemD_pick (ix := [20, 21, 22, 23]) (lemDS_ok) (rfl)
def tq_actsW : List TEq := pickL teqQ [397, 398, 400, 401, 403]
theorem tq_actsW_ok : TEqOk tq_actsW := teq_pick (ix := [397, 398, 400, 401, 403]) (teqQ_ok) (rfl)
theorem l_actsW : okLoopG Tryz.prog (prS lm_actsW stab14 slt1) tq_actsW ld_actsW (.x 2) 20000 actsW = true := by kernel_rfl
def slt2 : List LEnt := actsW :: slt1
theorem slt2_ok (U : Int) : LoopOk Tryz.prog (AnyOk Tryz.prog U) U slt2 := okLoopG_cons mixed names (fun U => prS_ok lm_actsW_ok (stab14_ok U) (slt1_ok U)) tq_actsW_ok ld_actsW_ok l_actsW U
def lm_getW : List Lem := pickL lemS [68, 69, 70]
theorem lm_getW_ok : LemOk lm_getW := lem_pick (ix := [68, 69, 70]) (lemS_ok) (rfl)
def ld_getW : List Lem := pickL lemDS [24, 25, 26, 27, 30, 31, 32, 33, 34, 35, 36]
theorem ld_getW_ok : LemD ld_getW := lemD_pick (ix := [24, 25, 26, 27, 30, 31, 32, 33, 34, 35, 36]) (lemDS_ok) (rfl)
def tq_getW : List TEq := [⟨[], (.f 153 [(.x 0)]), (.conv .i64 (.f 111 [(.x 0), (.c 0), (.c 16777216)]))⟩,
 ⟨[], (.f 154 [(.x 0)]), (.conv .i64 (.f 111 [(.x 0), (.f 110 [(.x 0), (.c 0), (.c 16777216)]), (.c 16777216)]))⟩,
 ⟨[], (.f 155 [(.x 0)]), (.conv .i64 (.f 111 [(.x 0), (.f 110 [(.x 0), (.f 110 [(.x 0), (.c 0), (.c 16777216)]), (.c 16777216)]), (.c 16777216)]))⟩,
 ⟨[], (.f 156 [(.x 0)]), (.conv .i64 (.f 111 [(.x 0), (.f 110 [(.x 0), (.f 110 [(.x 0), (.f 110 [(.x 0), (.c 0), (.c 16777216)]), (.c 16777216)]), (.c 16777216)]), (.c 16777216)]))⟩]
theorem tq_getW_ok : TEqOk tq_getW := teq_pick (ix := [404, 405, 406, 407]) (teqQ_ok) (by kernel_rfl)
theorem e_getW : okEntG Tryz.prog (prS lm_getW stab14 slt2) tq_getW ld_getW true 20000 getW = true := by kernel_rfl
def stab15 : List Ent := getW :: stab14
theorem stab15_ok (U : Int) : TabOk Tryz.prog (AnyOk Tryz.prog U) U stab15 := okEntG_cons mixed names (prS_ok lm_getW_ok (stab14_ok U) (slt2_ok U)) tq_getW_ok ld_getW_ok e_getW (stab14_ok U)
end Go.Proofs.YtcjbpaiomcfgnaaGreatDoor
