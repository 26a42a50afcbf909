/- ScriptPuts, run by the evaluator: numbers, dots, read. (Printed by gen_pgf.py.) -/
import Derived.Test.YtcjbpaiomcfgnaaGreatDoorHp1
namespace Go.Proofs.YtcjbpaiomcfgnaaGreatDoor
open Go Go.RowKit
set_option maxRecDepth 100000
def lm_wnum : List Lem := pickL lemS [46, 47, 48, 49]
theorem lm_wnum_ok : LemOk lm_wnum := lem_pick (ix := [46, 47, 48, 49]) (lemS_ok) (rfl)
def tq_wnum : List TEq := pickL teqQ [38, 39, 40, 41, 42, 43, 44, 45, 46, 47, 48, 49, 50, 51, 52, 53, 54, 55, 56, 57, 58, 59, 60, 61, 62, 63, 64, 65, 66, 67, 68, 69, 70, 71, 72, 73, 74, 75, 76, 77, 78, 79, 80, 81, 82, 83, 84, 85, 86, 87, 88, 89, 90, 91, 92, 93, 94, 95, 96, 97, 98, 99, 100, 101, 102, 103, 104, 105, 106, 107, 108, 109, 110, 111, 112, 113, 114, 115, 116, 117, 118, 119, 120, 121, 122, 123, 124, 125, 126, 127, 128, 129, 130, 131, 132, 133, 134, 135, 136, 137, 138, 139, 140, 141, 142, 143, 144, 145, 146, 147, 148, 149, 150, 151, 152, 153, 154]
theorem tq_wnum_ok : TEqOk tq_wnum := teq_pick (ix := [38, 39, 40, 41, 42, 43, 44, 45, 46, 47, 48, 49, 50, 51, 52, 53, 54, 55, 56, 57, 58, 59, 60, 61, 62, 63, 64, 65, 66, 67, 68, 69, 70, 71, 72, 73, 74, 75, 76, 77, 78, 79, 80, 81, 82, 83, 84, 85, 86, 87, 88, 89, 90, 91, 92, 93, 94, 95, 96, 97, 98, 99, 100, 101, 102, 103, 104, 105, 106, 107, 108, 109, 110, 111, 112, 113, 114, 115, 116, 117, 118, 119, 120, 121, 122, 123, 124, 125, 126, 127, 128, 129, 130, 131, 132, 133, 134, 135, 136, 137, 138, 139, 140, 141, 142, 143, 144, 145, 146, 147, 148, 149, 150, 151, 152, 153, 154]) (teqQ_ok) (rfl)
theorem e_wnum : okEntG Tryz.prog (prS lm_wnum [] []) tq_wnum [] false 20000 rnumW = true := by kernel_rfl
def stab1 : List Ent := rnumW :: []
theorem stab1_ok (U : Int) : TabOk Tryz.prog (AnyOk Tryz.prog U) U stab1 := okEntG_cons mixed names (prS_ok lm_wnum_ok tab_nil lt_nil) tq_wnum_ok lemD_nil e_wnum tab_nil
theorem e_dig0 : okEntG Tryz.prog (prS [] stab1 []) [] [] false 20000 (dgE 0) = true := by kernel_rfl
def stab2 : List Ent := (dgE 0) :: stab1
theorem stab2_ok (U : Int) : TabOk Tryz.prog (AnyOk Tryz.prog U) U stab2 := okEntG_cons mixed names (prS_ok lemOk_nil (stab1_ok U) lt_nil) teq_nil lemD_nil e_dig0 (stab1_ok U)
theorem e_dig1 : okEntG Tryz.prog (prS [] stab2 []) [] [] false 20000 (dgE 1) = true := by kernel_rfl
def stab3 : List Ent := (dgE 1) :: stab2
theorem stab3_ok (U : Int) : TabOk Tryz.prog (AnyOk Tryz.prog U) U stab3 := okEntG_cons mixed names (prS_ok lemOk_nil (stab2_ok U) lt_nil) teq_nil lemD_nil e_dig1 (stab2_ok U)
theorem e_dig2 : okEntG Tryz.prog (prS [] stab3 []) [] [] false 20000 (dgE 2) = true := by kernel_rfl
def stab4 : List Ent := (dgE 2) :: stab3
theorem stab4_ok (U : Int) : TabOk Tryz.prog (AnyOk Tryz.prog U) U stab4 := okEntG_cons mixed names (prS_ok lemOk_nil (stab3_ok U) lt_nil) teq_nil lemD_nil e_dig2 (stab3_ok U)
theorem e_dig3 : okEntG Tryz.prog (prS [] stab4 []) [] [] false 20000 (dgE 3) = true := by kernel_rfl
def stab5 : List Ent := (dgE 3) :: stab4
theorem stab5_ok (U : Int) : TabOk Tryz.prog (AnyOk Tryz.prog U) U stab5 := okEntG_cons mixed names (prS_ok lemOk_nil (stab4_ok U) lt_nil) teq_nil lemD_nil e_dig3 (stab4_ok U)
theorem e_dig4 : okEntG Tryz.prog (prS [] stab5 []) [] [] false 20000 (dgE 4) = true := by kernel_rfl
def stab6 : List Ent := (dgE 4) :: stab5
theorem stab6_ok (U : Int) : TabOk Tryz.prog (AnyOk Tryz.prog U) U stab6 := okEntG_cons mixed names (prS_ok lemOk_nil (stab5_ok U) lt_nil) teq_nil lemD_nil e_dig4 (stab5_ok U)
theorem e_dig5 : okEntG Tryz.prog (prS [] stab6 []) [] [] false 20000 (dgE 5) = true := by kernel_rfl
def stab7 : List Ent := (dgE 5) :: stab6
theorem stab7_ok (U : Int) : TabOk Tryz.prog (AnyOk Tryz.prog U) U stab7 := okEntG_cons mixed names (prS_ok lemOk_nil (stab6_ok U) lt_nil) teq_nil lemD_nil e_dig5 (stab6_ok U)
theorem e_dig6 : okEntG Tryz.prog (prS [] stab7 []) [] [] false 20000 (dgE 6) = true := by kernel_rfl
def stab8 : List Ent := (dgE 6) :: stab7
theorem stab8_ok (U : Int) : TabOk Tryz.prog (AnyOk Tryz.prog U) U stab8 := okEntG_cons mixed names (prS_ok lemOk_nil (stab7_ok U) lt_nil) teq_nil lemD_nil e_dig6 (stab7_ok U)
theorem e_dig7 : okEntG Tryz.prog (prS [] stab8 []) [] [] false 20000 (dgE 7) = true := by kernel_rfl
def stab9 : List Ent := (dgE 7) :: stab8
theorem stab9_ok (U : Int) : TabOk Tryz.prog (AnyOk Tryz.prog U) U stab9 := okEntG_cons mixed names (prS_ok lemOk_nil (stab8_ok U) lt_nil) teq_nil lemD_nil e_dig7 (stab8_ok U)
theorem e_dig8 : okEntG Tryz.prog (prS [] stab9 []) [] [] false 20000 (dgE 8) = true := by kernel_rfl
def stab10 : List Ent := (dgE 8) :: stab9
theorem stab10_ok (U : Int) : TabOk Tryz.prog (AnyOk Tryz.prog U) U stab10 := okEntG_cons mixed names (prS_ok lemOk_nil (stab9_ok U) lt_nil) teq_nil lemD_nil e_dig8 (stab9_ok U)
def tq_rnum : List TEq := pickL teqQ [155, 156, 157, 158, 159, 160, 161, 162, 408]
theorem tq_rnum_ok : TEqOk tq_rnum := teq_pick (ix := [155, 156, 157, 158, 159, 160, 161, 162, 408]) (teqQ_ok) (rfl)
theorem e_rnum : okEntG Tryz.prog (prS [] stab10 []) tq_rnum [] false 20000 rnum = true := by kernel_rfl
def stab11 : List Ent := rnum :: stab10
theorem stab11_ok (U : Int) : TabOk Tryz.prog (AnyOk Tryz.prog U) U stab11 := okEntG_cons mixed names (prS_ok lemOk_nil (stab10_ok U) lt_nil) tq_rnum_ok lemD_nil e_rnum (stab10_ok U)
def tq_wdot : List TEq := pickL teqQ [358, 359, 360, 361, 362]
theorem tq_wdot_ok : TEqOk tq_wdot := teq_pick (ix := [358, 359, 360, 361, 362]) (teqQ_ok) (rfl)
theorem e_wdot : okEntG Tryz.prog (prS [] stab11 []) tq_wdot [] false 20000 rdotW = true := by kernel_rfl
def stab12 : List Ent := rdotW :: stab11
theorem stab12_ok (U : Int) : TabOk Tryz.prog (AnyOk Tryz.prog U) U stab12 := okEntG_cons mixed names (prS_ok lemOk_nil (stab11_ok U) lt_nil) tq_wdot_ok lemD_nil e_wdot (stab11_ok U)
def tq_open : List TEq := [⟨[], (.f 112 [(.c 0)]), (.c 0)⟩,
 ⟨[], (.f 113 [(.c 0)]), (.c 1)⟩]
theorem tq_open_ok : TEqOk tq_open := teq_pick (ix := [365, 366]) (teqQ_ok) (by kernel_rfl)
theorem e_open : okEntG Tryz.prog (prS [] stab12 []) tq_open [] false 20000 opn = true := by kernel_rfl
def stab13 : List Ent := opn :: stab12
theorem stab13_ok (U : Int) : TabOk Tryz.prog (AnyOk Tryz.prog U) U stab13 := okEntG_cons mixed names (prS_ok lemOk_nil (stab12_ok U) lt_nil) tq_open_ok lemD_nil e_open (stab12_ok U)
end Go.Proofs.YtcjbpaiomcfgnaaGreatDoor
