/- ScriptPuts, run by the evaluator: scripts, put by the document; are they the same; how great. (Printed by gen_pgf.py.) -/
import Derived.Test.YtcjbpaiomcfgnaaGreatDoorHp7
namespace Go.Proofs.YtcjbpaiomcfgnaaGreatDoor
open Go Go.RowKit
set_option maxRecDepth 100000
def lm_putsR : List Lem := pickL lemS [15, 16, 17, 30, 31, 33]
theorem lm_putsR_ok : LemOk lm_putsR := lem_pick (ix := [15, 16, 17, 30, 31, 33]) (lemS_ok) (rfl)
def tq_putsR : List TEq := pickL teqQ [0, 1]
theorem tq_putsR_ok : TEqOk tq_putsR := teq_pick (ix := [0, 1]) (teqQ_ok) (rfl)
theorem l_putsR : okLoopG Tryz.prog (prS lm_putsR stab25 slt10) tq_putsR [] (left (.x 1) (.x 2)) 20000 putsR = true := by kernel_rfl
def slt11 : List LEnt := putsR :: slt10
theorem slt11_ok (U : Int) : LoopOk Tryz.prog (AnyOk Tryz.prog U) U slt11 := okLoopG_cons mixed names (fun U => prS_ok lm_putsR_ok (stab25_ok U) (slt10_ok U)) tq_putsR_ok lemD_nil l_putsR U
def lm_putR : List Lem := [⟨[((.bin .neq .i64 (.f 160 [(.x 4), (.x 5), (.x 6), (.x 7), (.x 1)]) (.c 0)), false)], (.f 161 [(.x 1)]), false⟩,
 ⟨[((.bin .leq .i64 (.f 171 [(.x 1), (.c 0)]) (.c 80000)), true)], (.bin .leq .i64 (.bin .add .i64 (.f 0 [(.f 2 [(.f 2 [(.f 2 [(.f 2 [(.f 100 [(.conv .u64 (.x 4))]), (.f 100 [(.conv .u64 (.x 5))])]), (.f 100 [(.conv .u64 (.x 6))])]), (.f 100 [(.conv .u64 (.x 7))])]), (.f 100 [(.conv .u64 (.f 0 [(.x 1)]))])])]) (.f 171 [(.x 1), (.c 0)])) (.c 90000)), true⟩]
theorem lm_putR_ok : LemOk lm_putR := lem_pick (ix := [18, 19]) (lemS_ok) (by kernel_rfl)
def ld_putR : List Lem := [⟨[((.bin .leq .i64 (.f 171 [(.x 1), (.c 0)]) (.c 80000)), true), ((.bin .geq .i64 (.f 0 [(.f 15 [(.x 1)])]) (.c 0)), true), ((.bin .geq .i64 (.x 4) (.c (-9223372036854775808))), true), ((.bin .geq .i64 (.x 5) (.c (-9223372036854775808))), true), ((.bin .geq .i64 (.x 6) (.c (-9223372036854775808))), true), ((.bin .geq .i64 (.x 7) (.c (-9223372036854775808))), true)], (.bin .leq .i64 (.f 0 [(.f 172 [(.x 4), (.x 5), (.x 6), (.x 7), (.x 1)])]) (.c 90000)), true⟩]
theorem ld_putR_ok : LemD ld_putR := lemD_pick (ix := [0]) (lemDS_ok) (by kernel_rfl)
def tq_putR : List TEq := pickL teqQ [2, 3]
theorem tq_putR_ok : TEqOk tq_putR := teq_pick (ix := [2, 3]) (teqQ_ok) (rfl)
theorem e_putR : okEntG Tryz.prog (prS lm_putR stab25 slt11) tq_putR ld_putR false 20000 putR = true := by kernel_rfl
def stab26 : List Ent := putR :: stab25
theorem stab26_ok (U : Int) : TabOk Tryz.prog (AnyOk Tryz.prog U) U stab26 := okEntG_cons mixed names (prS_ok lm_putR_ok (stab25_ok U) (slt11_ok U)) tq_putR_ok ld_putR_ok e_putR (stab25_ok U)
def lm_sameL : List Lem := pickL lemS [22, 23, 24, 25, 26, 27, 29]
theorem lm_sameL_ok : LemOk lm_sameL := lem_pick (ix := [22, 23, 24, 25, 26, 27, 29]) (lemS_ok) (rfl)
def ld_sameL : List Lem := pickL lemDS [1, 2, 3, 4, 5, 6]
theorem ld_sameL_ok : LemD ld_sameL := lemD_pick (ix := [1, 2, 3, 4, 5, 6]) (lemDS_ok) (rfl)
theorem l_sameL : okLoopG Tryz.prog (prS lm_sameL stab26 slt11) [] ld_sameL (left (.x 1) (.x 3)) 20000 sameL = true := by kernel_rfl
def slt12 : List LEnt := sameL :: slt11
theorem slt12_ok (U : Int) : LoopOk Tryz.prog (AnyOk Tryz.prog U) U slt12 := okLoopG_cons mixed names (fun U => prS_ok lm_sameL_ok (stab26_ok U) (slt11_ok U)) teq_nil ld_sameL_ok l_sameL U
def lm_sameE : List Lem := [⟨[((.bin .geq .i64 (.f 0 [(.f 15 [(.x 1)])]) (.c 0)), true), ((.bin .geq .i64 (.f 0 [(.f 15 [(.x 2)])]) (.c 0)), true)], (.f 174 [(.x 1), (.x 2), (.c 0)]), true⟩]
theorem lm_sameE_ok : LemOk lm_sameE := lem_pick (ix := [21]) (lemS_ok) (by kernel_rfl)
def tq_sameE : List TEq := [⟨[((.f 173 [(.x 1), (.x 2)]), true)], (.f 173 [(.x 1), (.x 2)]), (.c 1)⟩,
 ⟨[((.f 173 [(.x 1), (.x 2)]), false)], (.f 173 [(.x 1), (.x 2)]), (.c 0)⟩,
 ⟨[((.bin .neq .i64 (.f 0 [(.x 1)]) (.f 0 [(.x 2)])), true), ((.bin .geq .i64 (.f 0 [(.f 15 [(.x 1)])]) (.c 0)), true), ((.bin .geq .i64 (.f 0 [(.f 15 [(.x 2)])]) (.c 0)), true)], (.f 173 [(.x 1), (.x 2)]), (.c 0)⟩]
theorem tq_sameE_ok : TEqOk tq_sameE := teq_pick (ix := [8, 9, 10]) (teqQ_ok) (by kernel_rfl)
theorem e_sameE : okEntG Tryz.prog (prS lm_sameE stab26 slt12) tq_sameE [] false 20000 sameE = true := by kernel_rfl
def stab27 : List Ent := sameE :: stab26
theorem stab27_ok (U : Int) : TabOk Tryz.prog (AnyOk Tryz.prog U) U stab27 := okEntG_cons mixed names (prS_ok lm_sameE_ok (stab26_ok U) (slt12_ok U)) tq_sameE_ok lemD_nil e_sameE (stab26_ok U)
def lm_greatL : List Lem := pickL lemS [30, 31, 33]
theorem lm_greatL_ok : LemOk lm_greatL := lem_pick (ix := [30, 31, 33]) (lemS_ok) (rfl)
def tq_greatL : List TEq := pickL teqQ [11, 12]
theorem tq_greatL_ok : TEqOk tq_greatL := teq_pick (ix := [11, 12]) (teqQ_ok) (rfl)
theorem l_greatL : okLoopG Tryz.prog (prS lm_greatL stab27 slt12) tq_greatL [] (left (.x 1) (.x 2)) 20000 greatL = true := by kernel_rfl
def slt13 : List LEnt := greatL :: slt12
theorem slt13_ok (U : Int) : LoopOk Tryz.prog (AnyOk Tryz.prog U) U slt13 := okLoopG_cons mixed names (fun U => prS_ok lm_greatL_ok (stab27_ok U) (slt12_ok U)) tq_greatL_ok lemD_nil l_greatL U
theorem e_greatE : okEntG Tryz.prog (prS [] stab27 slt13) [] [] false 20000 greatE = true := by kernel_rfl
def stab28 : List Ent := greatE :: stab27
theorem stab28_ok (U : Int) : TabOk Tryz.prog (AnyOk Tryz.prog U) U stab28 := okEntG_cons mixed names (prS_ok lemOk_nil (stab27_ok U) (slt13_ok U)) teq_nil lemD_nil e_greatE (stab27_ok U)
end Go.Proofs.YtcjbpaiomcfgnaaGreatDoor
