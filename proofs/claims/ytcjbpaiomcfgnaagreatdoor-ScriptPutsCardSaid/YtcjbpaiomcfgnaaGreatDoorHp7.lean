/- ScriptPuts, run by the evaluator: scripts, put by the program; an act, put by the document. (Printed by gen_pgf.py.) -/
import Derived.Test.YtcjbpaiomcfgnaaGreatDoorHp6
namespace Go.Proofs.YtcjbpaiomcfgnaaGreatDoor
open Go Go.RowKit
set_option maxRecDepth 100000
def lm_putsL : List Lem := pickL lemS [15, 16, 17, 30, 31, 33]
theorem lm_putsL_ok : LemOk lm_putsL := lem_pick (ix := [15, 16, 17, 30, 31, 33]) (lemS_ok) (rfl)
def tq_putsL : List TEq := pickL teqQ [0, 1]
theorem tq_putsL_ok : TEqOk tq_putsL := teq_pick (ix := [0, 1]) (teqQ_ok) (rfl)
theorem l_putsL : okLoopG Tryz.prog (prS lm_putsL stab23 slt8) tq_putsL [] (left (.x 1) (.x 2)) 20000 putsL = true := by kernel_rfl
def slt9 : List LEnt := putsL :: slt8
theorem slt9_ok (U : Int) : LoopOk Tryz.prog (AnyOk Tryz.prog U) U slt9 := okLoopG_cons mixed names (fun U => prS_ok lm_putsL_ok (stab23_ok U) (slt8_ok U)) tq_putsL_ok lemD_nil l_putsL U
def lm_putW : List Lem := [⟨[((.bin .neq .i64 (.f 160 [(.x 4), (.x 5), (.x 6), (.x 7), (.x 1)]) (.c 0)), false)], (.f 161 [(.x 1)]), false⟩,
 ⟨[((.bin .leq .i64 (.f 171 [(.x 1), (.c 0)]) (.c 80000)), true)], (.bin .leq .i64 (.bin .add .i64 (.f 0 [(.f 2 [(.f 2 [(.f 2 [(.f 2 [(.f 100 [(.conv .u64 (.x 4))]), (.f 100 [(.conv .u64 (.x 5))])]), (.f 100 [(.conv .u64 (.x 6))])]), (.f 100 [(.conv .u64 (.x 7))])]), (.f 100 [(.conv .u64 (.f 0 [(.x 1)]))])])]) (.f 171 [(.x 1), (.c 0)])) (.c 90000)), true⟩]
theorem lm_putW_ok : LemOk lm_putW := lem_pick (ix := [18, 19]) (lemS_ok) (by kernel_rfl)
def ld_putW : List Lem := [⟨[((.bin .leq .i64 (.f 171 [(.x 1), (.c 0)]) (.c 80000)), true), ((.bin .geq .i64 (.f 0 [(.f 15 [(.x 1)])]) (.c 0)), true), ((.bin .geq .i64 (.x 4) (.c (-9223372036854775808))), true), ((.bin .geq .i64 (.x 5) (.c (-9223372036854775808))), true), ((.bin .geq .i64 (.x 6) (.c (-9223372036854775808))), true), ((.bin .geq .i64 (.x 7) (.c (-9223372036854775808))), true)], (.bin .leq .i64 (.f 0 [(.f 172 [(.x 4), (.x 5), (.x 6), (.x 7), (.x 1)])]) (.c 90000)), true⟩]
theorem ld_putW_ok : LemD ld_putW := lemD_pick (ix := [0]) (lemDS_ok) (by kernel_rfl)
def tq_putW : List TEq := pickL teqQ [2, 3]
theorem tq_putW_ok : TEqOk tq_putW := teq_pick (ix := [2, 3]) (teqQ_ok) (rfl)
theorem e_putW : okEntG Tryz.prog (prS lm_putW stab23 slt9) tq_putW ld_putW false 20000 putW = true := by kernel_rfl
def stab24 : List Ent := putW :: stab23
theorem stab24_ok (U : Int) : TabOk Tryz.prog (AnyOk Tryz.prog U) U stab24 := okEntG_cons mixed names (prS_ok lm_putW_ok (stab23_ok U) (slt9_ok U)) tq_putW_ok ld_putW_ok e_putW (stab23_ok U)
def lm_actLL : List Lem := pickL lemS [20, 80, 81, 83]
theorem lm_actLL_ok : LemOk lm_actLL := lem_pick (ix := [20, 80, 81, 83]) (lemS_ok) (rfl)
def tq_actLL : List TEq := pickL teqQ [4, 5]
theorem tq_actLL_ok : TEqOk tq_actLL := teq_pick (ix := [4, 5]) (teqQ_ok) (rfl)
theorem l_actLL : okLoopG Tryz.prog (prS lm_actLL stab24 slt9) tq_actLL [] (left (.x 1) (.x 2)) 20000 actLL = true := by kernel_rfl
def slt10 : List LEnt := actLL :: slt9
theorem slt10_ok (U : Int) : LoopOk Tryz.prog (AnyOk Tryz.prog U) U slt10 := okLoopG_cons mixed names (fun U => prS_ok lm_actLL_ok (stab24_ok U) (slt9_ok U)) tq_actLL_ok lemD_nil l_actLL U
def tq_actP : List TEq := pickL teqQ [6, 7]
theorem tq_actP_ok : TEqOk tq_actP := teq_pick (ix := [6, 7]) (teqQ_ok) (rfl)
theorem e_actP : okEntG Tryz.prog (prS [] stab24 slt10) tq_actP [] false 20000 actP = true := by kernel_rfl
def stab25 : List Ent := actP :: stab24
theorem stab25_ok (U : Int) : TabOk Tryz.prog (AnyOk Tryz.prog U) U stab25 := okEntG_cons mixed names (prS_ok lemOk_nil (stab24_ok U) (slt10_ok U)) tq_actP_ok lemD_nil e_actP (stab24_ok U)
end Go.Proofs.YtcjbpaiomcfgnaaGreatDoor
