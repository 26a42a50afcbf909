/- ScriptGets, run by the evaluator: scripts, read by the document. (Printed by gen_pgf.py.) -/
import Derived.Test.YtcjbpaiomcfgnaaGreatDoorHg3
namespace Go.Proofs.YtcjbpaiomcfgnaaGreatDoor
open Go Go.RowKit
set_option maxRecDepth 100000
def lm_linesR : List Lem := pickL lemS [71, 87, 88, 89, 90, 91]
theorem lm_linesR_ok : LemOk lm_linesR := lem_pick (ix := [71, 87, 88, 89, 90, 91]) (lemS_ok) (rfl)
def ld_linesR : List Lem := pickL lemDS [36, 37, 38, 39]
theorem ld_linesR_ok : LemD ld_linesR := lemD_pick (ix := [36, 37, 38, 39]) (lemDS_ok) (rfl)
def tq_linesR : List TEq := pickL teqQ [49, 50, 52, 53, 54]
theorem tq_linesR_ok : TEqOk tq_linesR := teq_pick (ix := [49, 50, 52, 53, 54]) (teqQ_ok) (rfl)
theorem l_linesR : okLoopG Tryz.prog (prS lm_linesR stab18 slt2) tq_linesR ld_linesR nR 20000 linesR = true := by kernel_rfl
def slt3 : List LEnt := linesR :: slt2
theorem slt3_ok (U : Int) : LoopOk Tryz.prog (AnyOk Tryz.prog U) U slt3 := okLoopG_cons mixed names (fun U => prS_ok lm_linesR_ok (stab18_ok U) (slt2_ok U)) tq_linesR_ok ld_linesR_ok l_linesR U
def lm_actR : List Lem := pickL lemS [40, 41, 42, 64]
theorem lm_actR_ok : LemOk lm_actR := lem_pick (ix := [40, 41, 42, 64]) (lemS_ok) (rfl)
def ld_actR : List Lem := pickL lemDS [27, 28, 29, 30, 31]
theorem ld_actR_ok : LemD ld_actR := lemD_pick (ix := [27, 28, 29, 30, 31]) (lemDS_ok) (rfl)
def tq_actR : List TEq := pickL teqQ [32, 33, 34, 35, 36, 37, 38, 39, 40, 388, 389, 390, 391, 392, 393, 394, 395, 396, 397, 398, 399, 400, 401, 402, 403, 404, 405, 406, 407]
theorem tq_actR_ok : TEqOk tq_actR := teq_pick (ix := [32, 33, 34, 35, 36, 37, 38, 39, 40, 388, 389, 390, 391, 392, 393, 394, 395, 396, 397, 398, 399, 400, 401, 402, 403, 404, 405, 406, 407]) (teqQ_ok) (rfl)
theorem e_actR : okEntG Tryz.prog (prS lm_actR stab18 slt3) tq_actR ld_actR true 20000 actR = true := by kernel_rfl
def stab19 : List Ent := actR :: stab18
theorem stab19_ok (U : Int) : TabOk Tryz.prog (AnyOk Tryz.prog U) U stab19 := okEntG_cons mixed names (prS_ok lm_actR_ok (stab18_ok U) (slt3_ok U)) tq_actR_ok ld_actR_ok e_actR (stab18_ok U)
def lm_actsR : List Lem := pickL lemS [43, 44, 45, 46, 47, 54]
theorem lm_actsR_ok : LemOk lm_actsR := lem_pick (ix := [43, 44, 45, 46, 47, 54]) (lemS_ok) (rfl)
def ld_actsR : List Lem := pickL lemDS [32, 33, 34, 35]
theorem ld_actsR_ok : LemD ld_actsR := lemD_pick (ix := [32, 33, 34, 35]) (lemDS_ok) (rfl)
def tq_actsR : List TEq := pickL teqQ [42, 43, 45, 46, 47]
theorem tq_actsR_ok : TEqOk tq_actsR := teq_pick (ix := [42, 43, 45, 46, 47]) (teqQ_ok) (rfl)
theorem l_actsR : okLoopG Tryz.prog (prS lm_actsR stab19 slt3) tq_actsR ld_actsR nR 20000 actsR = true := by kernel_rfl
def slt4 : List LEnt := actsR :: slt3
theorem slt4_ok (U : Int) : LoopOk Tryz.prog (AnyOk Tryz.prog U) U slt4 := okLoopG_cons mixed names (fun U => prS_ok lm_actsR_ok (stab19_ok U) (slt3_ok U)) tq_actsR_ok ld_actsR_ok l_actsR U
def lm_getR : List Lem := pickL lemS [82, 84, 85, 86]
theorem lm_getR_ok : LemOk lm_getR := lem_pick (ix := [82, 84, 85, 86]) (lemS_ok) (rfl)
def ld_getR : List Lem := pickL lemDS [14, 15, 16, 17, 20, 21, 22, 23, 24, 25, 26]
theorem ld_getR_ok : LemD ld_getR := lemD_pick (ix := [14, 15, 16, 17, 20, 21, 22, 23, 24, 25, 26]) (lemDS_ok) (rfl)
def tq_getR : List TEq := [⟨[], (.f 153 [(.x 0)]), (.conv .i64 (.f 111 [(.x 0), (.c 0), (.c 16777216)]))⟩,
 ⟨[], (.f 154 [(.x 0)]), (.conv .i64 (.f 111 [(.x 0), (.f 110 [(.x 0), (.c 0), (.c 16777216)]), (.c 16777216)]))⟩,
 ⟨[], (.f 155 [(.x 0)]), (.conv .i64 (.f 111 [(.x 0), (.f 110 [(.x 0), (.f 110 [(.x 0), (.c 0), (.c 16777216)]), (.c 16777216)]), (.c 16777216)]))⟩,
 ⟨[], (.f 156 [(.x 0)]), (.conv .i64 (.f 111 [(.x 0), (.f 110 [(.x 0), (.f 110 [(.x 0), (.f 110 [(.x 0), (.c 0), (.c 16777216)]), (.c 16777216)]), (.c 16777216)]), (.c 16777216)]))⟩]
theorem tq_getR_ok : TEqOk tq_getR := teq_pick (ix := [421, 422, 423, 424]) (teqQ_ok) (by kernel_rfl)
theorem e_getR : okEntG Tryz.prog (prS lm_getR stab19 slt4) tq_getR ld_getR true 20000 getR = true := by kernel_rfl
def stab20 : List Ent := getR :: stab19
theorem stab20_ok (U : Int) : TabOk Tryz.prog (AnyOk Tryz.prog U) U stab20 := okEntG_cons mixed names (prS_ok lm_getR_ok (stab19_ok U) (slt4_ok U)) tq_getR_ok ld_getR_ok e_getR (stab19_ok U)
end Go.Proofs.YtcjbpaiomcfgnaaGreatDoor
