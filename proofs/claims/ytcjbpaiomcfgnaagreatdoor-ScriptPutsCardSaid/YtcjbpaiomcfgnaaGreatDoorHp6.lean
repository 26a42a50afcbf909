/- ScriptPuts, run by the evaluator: numbers, requests, lines, an act, put. (Printed by gen_pgf.py.) -/
import Derived.Test.YtcjbpaiomcfgnaaGreatDoorHp5
namespace Go.Proofs.YtcjbpaiomcfgnaaGreatDoor
open Go Go.RowKit
set_option maxRecDepth 100000
def tq_num0 : List TEq := pickL teqQ [408, 409, 410, 411, 412, 413, 414, 415, 416]
theorem tq_num0_ok : TEqOk tq_num0 := teq_pick (ix := [408, 409, 410, 411, 412, 413, 414, 415, 416]) (teqQ_ok) (rfl)
theorem e_num0 : okEntG Tryz.prog (prS [] stab19 slt6) tq_num0 [] false 20000 num0 = true := by kernel_rfl
def stab20 : List Ent := num0 :: stab19
theorem stab20_ok (U : Int) : TabOk Tryz.prog (AnyOk Tryz.prog U) U stab20 := okEntG_cons mixed names (prS_ok lemOk_nil (stab19_ok U) (slt6_ok U)) tq_num0_ok lemD_nil e_num0 (stab19_ok U)
def tq_num1 : List TEq := pickL teqQ [417, 418, 419, 420, 421, 422, 423, 424, 425]
theorem tq_num1_ok : TEqOk tq_num1 := teq_pick (ix := [417, 418, 419, 420, 421, 422, 423, 424, 425]) (teqQ_ok) (rfl)
theorem e_num1 : okEntG Tryz.prog (prS [] stab20 slt6) tq_num1 [] false 20000 num1 = true := by kernel_rfl
def stab21 : List Ent := num1 :: stab20
theorem stab21_ok (U : Int) : TabOk Tryz.prog (AnyOk Tryz.prog U) U stab21 := okEntG_cons mixed names (prS_ok lemOk_nil (stab20_ok U) (slt6_ok U)) tq_num1_ok lemD_nil e_num1 (stab20_ok U)
def lm_askLoop : List Lem := pickL lemS [71, 72, 73, 75, 77]
theorem lm_askLoop_ok : LemOk lm_askLoop := lem_pick (ix := [71, 72, 73, 75, 77]) (lemS_ok) (rfl)
def ld_askLoop : List Lem := pickL lemDS [37, 38]
theorem ld_askLoop_ok : LemD ld_askLoop := lemD_pick (ix := [37, 38]) (lemDS_ok) (rfl)
theorem l_askLoop : okLoopG Tryz.prog (prS lm_askLoop stab21 slt6) [] ld_askLoop (left (.x 20) (.x 60)) 20000 askLoop = true := by kernel_rfl
def slt7 : List LEnt := askLoop :: slt6
theorem slt7_ok (U : Int) : LoopOk Tryz.prog (AnyOk Tryz.prog U) U slt7 := okLoopG_cons mixed names (fun U => prS_ok lm_askLoop_ok (stab21_ok U) (slt6_ok U)) teq_nil ld_askLoop_ok l_askLoop U
def lm_ask : List Lem := [⟨[((.bin .geq .i64 (.f 0 [(.f 15 [(.x 20)])]) (.c 0)), true), ((.bin .geq .i64 (.f 0 [(.f 15 [(.x 50)])]) (.c 0)), true)], (.f 104 [(.x 20), (.x 50), (.c 0)]), true⟩]
theorem lm_ask_ok : LemOk lm_ask := lem_pick (ix := [76]) (lemS_ok) (by kernel_rfl)
def tq_ask : List TEq := pickL teqQ [426, 427, 428, 429, 430, 431, 432, 433, 434, 435, 436, 437, 438, 439, 440, 441]
theorem tq_ask_ok : TEqOk tq_ask := teq_pick (ix := [426, 427, 428, 429, 430, 431, 432, 433, 434, 435, 436, 437, 438, 439, 440, 441]) (teqQ_ok) (rfl)
theorem e_ask : okEntG Tryz.prog (prS lm_ask stab21 slt7) tq_ask [] false 20000 ask = true := by kernel_rfl
def stab22 : List Ent := ask :: stab21
theorem stab22_ok (U : Int) : TabOk Tryz.prog (AnyOk Tryz.prog U) U stab22 := okEntG_cons mixed names (prS_ok lm_ask_ok (stab21_ok U) (slt7_ok U)) tq_ask_ok lemD_nil e_ask (stab21_ok U)
def lm_putLoop : List Lem := pickL lemS [80, 81, 83, 84]
theorem lm_putLoop_ok : LemOk lm_putLoop := lem_pick (ix := [80, 81, 83, 84]) (lemS_ok) (rfl)
def tq_putLoop : List TEq := pickL teqQ [442, 443]
theorem tq_putLoop_ok : TEqOk tq_putLoop := teq_pick (ix := [442, 443]) (teqQ_ok) (rfl)
theorem l_putLoop : okLoopG Tryz.prog (prS lm_putLoop stab22 slt7) tq_putLoop [] (left (.x 1) (.x 2)) 20000 putLoop = true := by kernel_rfl
def slt8 : List LEnt := putLoop :: slt7
theorem slt8_ok (U : Int) : LoopOk Tryz.prog (AnyOk Tryz.prog U) U slt8 := okLoopG_cons mixed names (fun U => prS_ok lm_putLoop_ok (stab22_ok U) (slt7_ok U)) tq_putLoop_ok lemD_nil l_putLoop U
def tq_put1 : List TEq := pickL teqQ [446, 447]
theorem tq_put1_ok : TEqOk tq_put1 := teq_pick (ix := [446, 447]) (teqQ_ok) (rfl)
theorem e_put1 : okEntG Tryz.prog (prS [] stab22 slt8) tq_put1 [] false 20000 put1 = true := by kernel_rfl
def stab23 : List Ent := put1 :: stab22
theorem stab23_ok (U : Int) : TabOk Tryz.prog (AnyOk Tryz.prog U) U stab23 := okEntG_cons mixed names (prS_ok lemOk_nil (stab22_ok U) (slt8_ok U)) tq_put1_ok lemD_nil e_put1 (stab22_ok U)
end Go.Proofs.YtcjbpaiomcfgnaaGreatDoor
