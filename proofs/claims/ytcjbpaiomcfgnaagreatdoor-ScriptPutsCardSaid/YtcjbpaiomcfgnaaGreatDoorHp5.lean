/- ScriptPuts, run by the evaluator: what may be. (Printed by gen_pgf.py.) -/
import Derived.Test.YtcjbpaiomcfgnaaGreatDoorHp3
namespace Go.Proofs.YtcjbpaiomcfgnaaGreatDoor
open Go Go.RowKit
set_option maxRecDepth 100000
def lm_idxL : List Lem := pickL lemS [30, 31, 33, 36]
theorem lm_idxL_ok : LemOk lm_idxL := lem_pick (ix := [30, 31, 33, 36]) (lemS_ok) (rfl)
def ld_idxL : List Lem := [⟨[((.bin .gtr .i64 (.f 0 [(.f 1 [(.x 1), (.x 2), (.c 20)])]) (.c 16)), true), ((.bin .lss .i64 (.x 2) (.f 0 [(.x 1)])), true), ((.bin .geq .i64 (.x 2) (.c 0)), true)], (.f 161 [(.x 1)]), true⟩,
 ⟨[((.f 163 [(.x 1), (.x 2)]), true), ((.bin .lss .i64 (.x 2) (.f 0 [(.x 1)])), false), ((.bin .leq .i64 (.x 2) (.f 0 [(.x 1)])), true), ((.bin .geq .i64 (.x 2) (.c 0)), true)], (.f 161 [(.x 1)]), false⟩]
theorem ld_idxL_ok : LemD ld_idxL := lemD_pick (ix := [7, 12]) (lemDS_ok) (by kernel_rfl)
theorem l_idxL : okLoopG Tryz.prog (prS lm_idxL stab15 slt2) [] ld_idxL (left (.x 1) (.x 2)) 20000 idxL = true := by kernel_rfl
def slt3 : List LEnt := idxL :: slt2
theorem slt3_ok (U : Int) : LoopOk Tryz.prog (AnyOk Tryz.prog U) U slt3 := okLoopG_cons mixed names (fun U => prS_ok lm_idxL_ok (stab15_ok U) (slt2_ok U)) teq_nil ld_idxL_ok l_idxL U
def lm_idxF : List Lem := pickL lemS [30, 31, 33, 37]
theorem lm_idxF_ok : LemOk lm_idxF := lem_pick (ix := [30, 31, 33, 37]) (lemS_ok) (rfl)
def ld_idxF : List Lem := [⟨[((.bin .lss .i64 (.conv .i64 (.f 1 [(.x 1), (.x 2), (.c 2)])) (.c 0)), true), ((.bin .lss .i64 (.x 2) (.f 0 [(.x 1)])), true), ((.bin .geq .i64 (.x 2) (.c 0)), true)], (.f 162 [(.x 1)]), true⟩,
 ⟨[((.bin .gtr .i64 (.conv .i64 (.f 1 [(.x 1), (.x 2), (.c 2)])) (.c 16777216)), true), ((.bin .lss .i64 (.x 2) (.f 0 [(.x 1)])), true), ((.bin .geq .i64 (.x 2) (.c 0)), true)], (.f 162 [(.x 1)]), true⟩,
 ⟨[((.f 164 [(.x 1), (.x 2)]), true), ((.bin .lss .i64 (.x 2) (.f 0 [(.x 1)])), false), ((.bin .leq .i64 (.x 2) (.f 0 [(.x 1)])), true), ((.bin .geq .i64 (.x 2) (.c 0)), true)], (.f 162 [(.x 1)]), false⟩]
theorem ld_idxF_ok : LemD ld_idxF := lemD_pick (ix := [8, 9, 13]) (lemDS_ok) (by kernel_rfl)
theorem l_idxF : okLoopG Tryz.prog (prS lm_idxF stab15 slt3) [] ld_idxF (left (.x 1) (.x 2)) 20000 idxF = true := by kernel_rfl
def slt4 : List LEnt := idxF :: slt3
theorem slt4_ok (U : Int) : LoopOk Tryz.prog (AnyOk Tryz.prog U) U slt4 := okLoopG_cons mixed names (fun U => prS_ok lm_idxF_ok (stab15_ok U) (slt3_ok U)) teq_nil ld_idxF_ok l_idxF U
def lm_contL : List Lem := [⟨[((.bin .geq .i64 (.f 0 [(.f 15 [(.x 1)])]) (.c 0)), true)], (.f 163 [(.x 1), (.c 0)]), true⟩]
theorem lm_contL_ok : LemOk lm_contL := lem_pick (ix := [34]) (lemS_ok) (by kernel_rfl)
def tq_contL : List TEq := [⟨[((.f 161 [(.x 1)]), true)], (.f 161 [(.x 1)]), (.c 1)⟩,
 ⟨[((.f 161 [(.x 1)]), false)], (.f 161 [(.x 1)]), (.c 0)⟩]
theorem tq_contL_ok : TEqOk tq_contL := teq_pick (ix := [13, 14]) (teqQ_ok) (by kernel_rfl)
theorem e_contL : okEntG Tryz.prog (prS lm_contL stab15 slt4) tq_contL [] false 20000 contL = true := by kernel_rfl
def stab16 : List Ent := contL :: stab15
theorem stab16_ok (U : Int) : TabOk Tryz.prog (AnyOk Tryz.prog U) U stab16 := okEntG_cons mixed names (prS_ok lm_contL_ok (stab15_ok U) (slt4_ok U)) tq_contL_ok lemD_nil e_contL (stab15_ok U)
def lm_contF : List Lem := [⟨[((.bin .geq .i64 (.f 0 [(.f 15 [(.x 1)])]) (.c 0)), true)], (.f 164 [(.x 1), (.c 0)]), true⟩]
theorem lm_contF_ok : LemOk lm_contF := lem_pick (ix := [35]) (lemS_ok) (by kernel_rfl)
def tq_contF : List TEq := [⟨[((.f 162 [(.x 1)]), true)], (.f 162 [(.x 1)]), (.c 1)⟩,
 ⟨[((.f 162 [(.x 1)]), false)], (.f 162 [(.x 1)]), (.c 0)⟩]
theorem tq_contF_ok : TEqOk tq_contF := teq_pick (ix := [15, 16]) (teqQ_ok) (by kernel_rfl)
theorem e_contF : okEntG Tryz.prog (prS lm_contF stab16 slt4) tq_contF [] false 20000 contF = true := by kernel_rfl
def stab17 : List Ent := contF :: stab16
theorem stab17_ok (U : Int) : TabOk Tryz.prog (AnyOk Tryz.prog U) U stab17 := okEntG_cons mixed names (prS_ok lm_contF_ok (stab16_ok U) (slt4_ok U)) tq_contF_ok lemD_nil e_contF (stab16_ok U)
def tq_mayW : List TEq := pickL teqQ [17, 18, 19, 20, 21, 22, 23, 24, 25, 26, 35, 36]
theorem tq_mayW_ok : TEqOk tq_mayW := teq_pick (ix := [17, 18, 19, 20, 21, 22, 23, 24, 25, 26, 35, 36]) (teqQ_ok) (rfl)
theorem e_mayW : okEntG Tryz.prog (prS [] stab17 slt4) tq_mayW [] false 20000 mayW = true := by kernel_rfl
def stab18 : List Ent := mayW :: stab17
theorem stab18_ok (U : Int) : TabOk Tryz.prog (AnyOk Tryz.prog U) U stab18 := okEntG_cons mixed names (prS_ok lemOk_nil (stab17_ok U) (slt4_ok U)) tq_mayW_ok lemD_nil e_mayW (stab17_ok U)
def lm_mrA : List Lem := pickL lemS [30, 31, 33, 36]
theorem lm_mrA_ok : LemOk lm_mrA := lem_pick (ix := [30, 31, 33, 36]) (lemS_ok) (rfl)
def ld_mrA : List Lem := [⟨[((.bin .gtr .i64 (.f 0 [(.f 1 [(.x 1), (.x 2), (.c 20)])]) (.c 16)), true), ((.bin .lss .i64 (.x 2) (.f 0 [(.x 1)])), true), ((.bin .geq .i64 (.x 2) (.c 0)), true)], (.f 161 [(.x 1)]), true⟩,
 ⟨[((.f 163 [(.x 1), (.x 2)]), true), ((.bin .lss .i64 (.x 2) (.f 0 [(.x 1)])), false), ((.bin .leq .i64 (.x 2) (.f 0 [(.x 1)])), true), ((.bin .geq .i64 (.x 2) (.c 0)), true)], (.f 161 [(.x 1)]), false⟩]
theorem ld_mrA_ok : LemD ld_mrA := lemD_pick (ix := [7, 12]) (lemDS_ok) (by kernel_rfl)
theorem l_mrA : okLoopG Tryz.prog (prS lm_mrA stab18 slt4) [] ld_mrA (left (.x 1) (.x 2)) 20000 mrA = true := by kernel_rfl
def slt5 : List LEnt := mrA :: slt4
theorem slt5_ok (U : Int) : LoopOk Tryz.prog (AnyOk Tryz.prog U) U slt5 := okLoopG_cons mixed names (fun U => prS_ok lm_mrA_ok (stab18_ok U) (slt4_ok U)) teq_nil ld_mrA_ok l_mrA U
def lm_mrB : List Lem := pickL lemS [30, 31, 33, 38]
theorem lm_mrB_ok : LemOk lm_mrB := lem_pick (ix := [30, 31, 33, 38]) (lemS_ok) (rfl)
def ld_mrB : List Lem := [⟨[((.bin .geq .i64 (.conv .i64 (.f 1 [(.x 1), (.x 2), (.c 2)])) (.c 0)), false), ((.bin .lss .i64 (.x 2) (.f 0 [(.x 1)])), true), ((.bin .geq .i64 (.x 2) (.c 0)), true)], (.f 162 [(.x 1)]), true⟩,
 ⟨[((.bin .leq .i64 (.conv .i64 (.f 1 [(.x 1), (.x 2), (.c 2)])) (.c 16777216)), false), ((.bin .lss .i64 (.x 2) (.f 0 [(.x 1)])), true), ((.bin .geq .i64 (.x 2) (.c 0)), true)], (.f 162 [(.x 1)]), true⟩,
 ⟨[((.f 164 [(.x 1), (.x 2)]), true), ((.bin .lss .i64 (.x 2) (.f 0 [(.x 1)])), false), ((.bin .leq .i64 (.x 2) (.f 0 [(.x 1)])), true), ((.bin .geq .i64 (.x 2) (.c 0)), true)], (.f 162 [(.x 1)]), false⟩]
theorem ld_mrB_ok : LemD ld_mrB := lemD_pick (ix := [10, 11, 13]) (lemDS_ok) (by kernel_rfl)
theorem l_mrB : okLoopG Tryz.prog (prS lm_mrB stab18 slt5) [] ld_mrB (left (.x 1) (.x 2)) 20000 mrB = true := by kernel_rfl
def slt6 : List LEnt := mrB :: slt5
theorem slt6_ok (U : Int) : LoopOk Tryz.prog (AnyOk Tryz.prog U) U slt6 := okLoopG_cons mixed names (fun U => prS_ok lm_mrB_ok (stab18_ok U) (slt5_ok U)) teq_nil ld_mrB_ok l_mrB U
def lm_mayR : List Lem := [⟨[((.bin .geq .i64 (.f 0 [(.f 15 [(.x 1)])]) (.c 0)), true)], (.f 163 [(.x 1), (.c 0)]), true⟩,
 ⟨[((.bin .geq .i64 (.f 0 [(.f 15 [(.x 1)])]) (.c 0)), true)], (.f 164 [(.x 1), (.c 0)]), true⟩]
theorem lm_mayR_ok : LemOk lm_mayR := lem_pick (ix := [34, 35]) (lemS_ok) (by kernel_rfl)
def tq_mayR : List TEq := pickL teqQ [17, 18, 27, 28, 29, 30, 31, 32, 33, 34, 35, 37]
theorem tq_mayR_ok : TEqOk tq_mayR := teq_pick (ix := [17, 18, 27, 28, 29, 30, 31, 32, 33, 34, 35, 37]) (teqQ_ok) (rfl)
theorem e_mayR : okEntG Tryz.prog (prS lm_mayR stab18 slt6) tq_mayR [] false 20000 mayR = true := by kernel_rfl
def stab19 : List Ent := mayR :: stab18
theorem stab19_ok (U : Int) : TabOk Tryz.prog (AnyOk Tryz.prog U) U stab19 := okEntG_cons mixed names (prS_ok lm_mayR_ok (stab18_ok U) (slt6_ok U)) tq_mayR_ok lemD_nil e_mayR (stab18_ok U)
end Go.Proofs.YtcjbpaiomcfgnaaGreatDoor
