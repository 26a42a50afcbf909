/- ScriptGets, run by the evaluator: numbers, requests, lines, an act, put. (Printed by gen_pgf.py.) -/
import Derived.Test.YtcjbpaiomcfgnaaGreatDoorHg5
namespace Go.Proofs.YtcjbpaiomcfgnaaGreatDoor
open Go Go.RowKit
set_option maxRecDepth 100000
def tq_num0 : List TEq := pickL teqQ [425, 426, 427, 428, 429, 430, 431, 432, 433]
theorem tq_num0_ok : TEqOk tq_num0 := teq_pick (ix := [425, 426, 427, 428, 429, 430, 431, 432, 433]) (teqQ_ok) (rfl)
theorem e_num0 : okEntG Tryz.prog (prS [] stab23 slt6) tq_num0 [] false 20000 num0 = true := by kernel_rfl
def stab24 : List Ent := num0 :: stab23
theorem stab24_ok (U : Int) : TabOk Tryz.prog (AnyOk Tryz.prog U) U stab24 := okEntG_cons mixed names (prS_ok lemOk_nil (stab23_ok U) (slt6_ok U)) tq_num0_ok lemD_nil e_num0 (stab23_ok U)
def tq_num1 : List TEq := pickL teqQ [434, 435, 436, 437, 438, 439, 440, 441, 442]
theorem tq_num1_ok : TEqOk tq_num1 := teq_pick (ix := [434, 435, 436, 437, 438, 439, 440, 441, 442]) (teqQ_ok) (rfl)
theorem e_num1 : okEntG Tryz.prog (prS [] stab24 slt6) tq_num1 [] false 20000 num1 = true := by kernel_rfl
def stab25 : List Ent := num1 :: stab24
theorem stab25_ok (U : Int) : TabOk Tryz.prog (AnyOk Tryz.prog U) U stab25 := okEntG_cons mixed names (prS_ok lemOk_nil (stab24_ok U) (slt6_ok U)) tq_num1_ok lemD_nil e_num1 (stab24_ok U)
def lm_askLoop : List Lem := pickL lemS [93, 94, 95, 97, 99]
theorem lm_askLoop_ok : LemOk lm_askLoop := lem_pick (ix := [93, 94, 95, 97, 99]) (lemS_ok) (rfl)
def ld_askLoop : List Lem := pickL lemDS [63, 64]
theorem ld_askLoop_ok : LemD ld_askLoop := lemD_pick (ix := [63, 64]) (lemDS_ok) (rfl)
theorem l_askLoop : okLoopG Tryz.prog (prS lm_askLoop stab25 slt6) [] ld_askLoop (left (.x 20) (.x 60)) 20000 askLoop = true := by kernel_rfl
def slt7 : List LEnt := askLoop :: slt6
theorem slt7_ok (U : Int) : LoopOk Tryz.prog (AnyOk Tryz.prog U) U slt7 := okLoopG_cons mixed names (fun U => prS_ok lm_askLoop_ok (stab25_ok U) (slt6_ok U)) teq_nil ld_askLoop_ok l_askLoop U
def lm_ask : List Lem := [⟨[((.bin .geq .i64 (.f 0 [(.f 15 [(.x 20)])]) (.c 0)), true), ((.bin .geq .i64 (.f 0 [(.f 15 [(.x 50)])]) (.c 0)), true)], (.f 104 [(.x 20), (.x 50), (.c 0)]), true⟩]
theorem lm_ask_ok : LemOk lm_ask := lem_pick (ix := [98]) (lemS_ok) (by kernel_rfl)
def tq_ask : List TEq := pickL teqQ [443, 444, 445, 446, 447, 448, 449, 450, 451, 452, 453, 454, 455, 456, 457, 458]
theorem tq_ask_ok : TEqOk tq_ask := teq_pick (ix := [443, 444, 445, 446, 447, 448, 449, 450, 451, 452, 453, 454, 455, 456, 457, 458]) (teqQ_ok) (rfl)
theorem e_ask : okEntG Tryz.prog (prS lm_ask stab25 slt7) tq_ask [] false 20000 ask = true := by kernel_rfl
def stab26 : List Ent := ask :: stab25
theorem stab26_ok (U : Int) : TabOk Tryz.prog (AnyOk Tryz.prog U) U stab26 := okEntG_cons mixed names (prS_ok lm_ask_ok (stab25_ok U) (slt7_ok U)) tq_ask_ok lemD_nil e_ask (stab25_ok U)
def lm_putLoop : List Lem := pickL lemS [102, 103, 105, 106]
theorem lm_putLoop_ok : LemOk lm_putLoop := lem_pick (ix := [102, 103, 105, 106]) (lemS_ok) (rfl)
def tq_putLoop : List TEq := pickL teqQ [459, 460]
theorem tq_putLoop_ok : TEqOk tq_putLoop := teq_pick (ix := [459, 460]) (teqQ_ok) (rfl)
theorem l_putLoop : okLoopG Tryz.prog (prS lm_putLoop stab26 slt7) tq_putLoop [] (left (.x 1) (.x 2)) 20000 putLoop = true := by kernel_rfl
def slt8 : List LEnt := putLoop :: slt7
theorem slt8_ok (U : Int) : LoopOk Tryz.prog (AnyOk Tryz.prog U) U slt8 := okLoopG_cons mixed names (fun U => prS_ok lm_putLoop_ok (stab26_ok U) (slt7_ok U)) tq_putLoop_ok lemD_nil l_putLoop U
def tq_put1 : List TEq := pickL teqQ [463, 464]
theorem tq_put1_ok : TEqOk tq_put1 := teq_pick (ix := [463, 464]) (teqQ_ok) (rfl)
theorem e_put1 : okEntG Tryz.prog (prS [] stab26 slt8) tq_put1 [] false 20000 put1 = true := by kernel_rfl
def stab27 : List Ent := put1 :: stab26
theorem stab27_ok (U : Int) : TabOk Tryz.prog (AnyOk Tryz.prog U) U stab27 := okEntG_cons mixed names (prS_ok lemOk_nil (stab26_ok U) (slt8_ok U)) tq_put1_ok lemD_nil e_put1 (stab26_ok U)
end Go.Proofs.YtcjbpaiomcfgnaaGreatDoor
