/- ScriptGets, run by the evaluator: what may be. (Printed by gen_pgf.py.) -/
import Derived.Test.YtcjbpaiomcfgnaaGreatDoorHg4
namespace Go.Proofs.YtcjbpaiomcfgnaaGreatDoor
open Go Go.RowKit
set_option maxRecDepth 100000
def lm_idxL : List Lem := pickL lemS [31, 32, 34, 37]
theorem lm_idxL_ok : LemOk lm_idxL := lem_pick (ix := [31, 32, 34, 37]) (lemS_ok) (rfl)
def ld_idxL : List Lem := [⟨[((.bin .gtr .i64 (.f 0 [(.f 1 [(.x 1), (.x 2), (.c 20)])]) (.c 16)), true), ((.bin .lss .i64 (.x 2) (.f 0 [(.x 1)])), true), ((.bin .geq .i64 (.x 2) (.c 0)), true)], (.f 161 [(.x 1)]), true⟩,
 ⟨[((.f 163 [(.x 1), (.x 2)]), true), ((.bin .lss .i64 (.x 2) (.f 0 [(.x 1)])), false), ((.bin .leq .i64 (.x 2) (.f 0 [(.x 1)])), true), ((.bin .geq .i64 (.x 2) (.c 0)), true)], (.f 161 [(.x 1)]), false⟩]
theorem ld_idxL_ok : LemD ld_idxL := lemD_pick (ix := [7, 12]) (lemDS_ok) (by kernel_rfl)
theorem l_idxL : okLoopG Tryz.prog (prS lm_idxL stab20 slt4) [] ld_idxL (left (.x 1) (.x 2)) 20000 idxL = true := by kernel_rfl
def slt5 : List LEnt := idxL :: slt4
theorem slt5_ok (U : Int) : LoopOk Tryz.prog (AnyOk Tryz.prog U) U slt5 := okLoopG_cons mixed names (fun U => prS_ok lm_idxL_ok (stab20_ok U) (slt4_ok U)) teq_nil ld_idxL_ok l_idxL U
def lm_idxF : List Lem := pickL lemS [31, 32, 34, 38]
theorem lm_idxF_ok : LemOk lm_idxF := lem_pick (ix := [31, 32, 34, 38]) (lemS_ok) (rfl)
def ld_idxF : List Lem := [⟨[((.bin .lss .i64 (.conv .i64 (.f 1 [(.x 1), (.x 2), (.c 2)])) (.c 0)), true), ((.bin .lss .i64 (.x 2) (.f 0 [(.x 1)])), true), ((.bin .geq .i64 (.x 2) (.c 0)), true)], (.f 162 [(.x 1)]), true⟩,
 ⟨[((.bin .gtr .i64 (.conv .i64 (.f 1 [(.x 1), (.x 2), (.c 2)])) (.c 16777216)), true), ((.bin .lss .i64 (.x 2) (.f 0 [(.x 1)])), true), ((.bin .geq .i64 (.x 2) (.c 0)), true)], (.f 162 [(.x 1)]), true⟩,
 ⟨[((.f 164 [(.x 1), (.x 2)]), true), ((.bin .lss .i64 (.x 2) (.f 0 [(.x 1)])), false), ((.bin .leq .i64 (.x 2) (.f 0 [(.x 1)])), true), ((.bin .geq .i64 (.x 2) (.c 0)), true)], (.f 162 [(.x 1)]), false⟩]
theorem ld_idxF_ok : LemD ld_idxF := lemD_pick (ix := [8, 9, 13]) (lemDS_ok) (by kernel_rfl)
theorem l_idxF : okLoopG Tryz.prog (prS lm_idxF stab20 slt5) [] ld_idxF (left (.x 1) (.x 2)) 20000 idxF = true := by kernel_rfl
def slt6 : List LEnt := idxF :: slt5
theorem slt6_ok (U : Int) : LoopOk Tryz.prog (AnyOk Tryz.prog U) U slt6 := okLoopG_cons mixed names (fun U => prS_ok lm_idxF_ok (stab20_ok U) (slt5_ok U)) teq_nil ld_idxF_ok l_idxF U
def lm_contL : List Lem := [⟨[((.bin .geq .i64 (.f 0 [(.f 15 [(.x 1)])]) (.c 0)), true)], (.f 163 [(.x 1), (.c 0)]), true⟩]
theorem lm_contL_ok : LemOk lm_contL := lem_pick (ix := [35]) (lemS_ok) (by kernel_rfl)
def tq_contL : List TEq := [⟨[((.f 161 [(.x 1)]), true)], (.f 161 [(.x 1)]), (.c 1)⟩,
 ⟨[((.f 161 [(.x 1)]), false)], (.f 161 [(.x 1)]), (.c 0)⟩]
theorem tq_contL_ok : TEqOk tq_contL := teq_pick (ix := [7, 8]) (teqQ_ok) (by kernel_rfl)
theorem e_contL : okEntG Tryz.prog (prS lm_contL stab20 slt6) tq_contL [] false 20000 contL = true := by kernel_rfl
def stab21 : List Ent := contL :: stab20
theorem stab21_ok (U : Int) : TabOk Tryz.prog (AnyOk Tryz.prog U) U stab21 := okEntG_cons mixed names (prS_ok lm_contL_ok (stab20_ok U) (slt6_ok U)) tq_contL_ok lemD_nil e_contL (stab20_ok U)
def lm_contF : List Lem := [⟨[((.bin .geq .i64 (.f 0 [(.f 15 [(.x 1)])]) (.c 0)), true)], (.f 164 [(.x 1), (.c 0)]), true⟩]
theorem lm_contF_ok : LemOk lm_contF := lem_pick (ix := [36]) (lemS_ok) (by kernel_rfl)
def tq_contF : List TEq := [⟨[((.f 162 [(.x 1)]), true)], (.f 162 [(.x 1)]), (.c 1)⟩,
 ⟨[((.f 162 [(.x 1)]), false)], (.f 162 [(.x 1)]), (.c 0)⟩]
theorem tq_contF_ok : TEqOk tq_contF := teq_pick (ix := [9, 10]) (teqQ_ok) (by kernel_rfl)
theorem e_contF : okEntG Tryz.prog (prS lm_contF stab21 slt6) tq_contF [] false 20000 contF = true := by kernel_rfl
def stab22 : List Ent := contF :: stab21
theorem stab22_ok (U : Int) : TabOk Tryz.prog (AnyOk Tryz.prog U) U stab22 := okEntG_cons mixed names (prS_ok lm_contF_ok (stab21_ok U) (slt6_ok U)) tq_contF_ok lemD_nil e_contF (stab21_ok U)
def tq_mayW : List TEq := pickL teqQ [11, 12, 13, 14, 15, 16, 17, 18, 19, 20, 29, 30]
theorem tq_mayW_ok : TEqOk tq_mayW := teq_pick (ix := [11, 12, 13, 14, 15, 16, 17, 18, 19, 20, 29, 30]) (teqQ_ok) (rfl)
theorem e_mayW : okEntG Tryz.prog (prS [] stab22 slt6) tq_mayW [] false 20000 mayW = true := by kernel_rfl
def stab23 : List Ent := mayW :: stab22
theorem stab23_ok (U : Int) : TabOk Tryz.prog (AnyOk Tryz.prog U) U stab23 := okEntG_cons mixed names (prS_ok lemOk_nil (stab22_ok U) (slt6_ok U)) tq_mayW_ok lemD_nil e_mayW (stab22_ok U)
end Go.Proofs.YtcjbpaiomcfgnaaGreatDoor
