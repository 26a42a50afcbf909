/- ScriptGets, run by the evaluator: numbers, dots, read. (Printed by gen_pgf.py.) -/
import Derived.Test.YtcjbpaiomcfgnaaGreatDoorHg1
namespace Go.Proofs.YtcjbpaiomcfgnaaGreatDoor
open Go Go.RowKit
set_option maxRecDepth 100000
def lm_wnum : List Lem := pickL lemS [56, 57, 58, 59]
theorem lm_wnum_ok : LemOk lm_wnum := lem_pick (ix := [56, 57, 58, 59]) (lemS_ok) (rfl)
def tq_wnum : List TEq := pickL teqQ [55, 56, 57, 58, 59, 60, 61, 62, 63, 64, 65, 66, 67, 68, 69, 70, 71, 72, 73, 74, 75, 76, 77, 78, 79, 80, 81, 82, 83, 84, 85, 86, 87, 88, 89, 90, 91, 92, 93, 94, 95, 96, 97, 98, 99, 100, 101, 102, 103, 104, 105, 106, 107, 108, 109, 110, 111, 112, 113, 114, 115, 116, 117, 118, 119, 120, 121, 122, 123, 124, 125, 126, 127, 128, 129, 130, 131, 132, 133, 134, 135, 136, 137, 138, 139, 140, 141, 142, 143, 144, 145, 146, 147, 148, 149, 150, 151, 152, 153, 154, 155, 156, 157, 158, 159, 160, 161, 162, 163, 164, 165, 166, 167, 168, 169, 170, 171]
theorem tq_wnum_ok : TEqOk tq_wnum := teq_pick (ix := [55, 56, 57, 58, 59, 60, 61, 62, 63, 64, 65, 66, 67, 68, 69, 70, 71, 72, 73, 74, 75, 76, 77, 78, 79, 80, 81, 82, 83, 84, 85, 86, 87, 88, 89, 90, 91, 92, 93, 94, 95, 96, 97, 98, 99, 100, 101, 102, 103, 104, 105, 106, 107, 108, 109, 110, 111, 112, 113, 114, 115, 116, 117, 118, 119, 120, 121, 122, 123, 124, 125, 126, 127, 128, 129, 130, 131, 132, 133, 134, 135, 136, 137, 138, 139, 140, 141, 142, 143, 144, 145, 146, 147, 148, 149, 150, 151, 152, 153, 154, 155, 156, 157, 158, 159, 160, 161, 162, 163, 164, 165, 166, 167, 168, 169, 170, 171]) (teqQ_ok) (rfl)
theorem e_wnum : okEntG Tryz.prog (prS lm_wnum [] []) tq_wnum [] false 20000 rnumW = true := by kernel_rfl
def stab1 : List Ent := rnumW :: []
theorem stab1_ok (U : Int) : TabOk Tryz.prog (AnyOk Tryz.prog U) U stab1 := okEntG_cons mixed names (prS_ok lm_wnum_ok tab_nil lt_nil) tq_wnum_ok lemD_nil e_wnum tab_nil
theorem e_dig0 : okEntG Tryz.prog (prS [] stab1 []) [] [] false 20000 (dgE 0) = true := by kernel_rfl
def stab2 : List Ent := (dgE 0) :: stab1
theorem stab2_ok (U : Int) : TabOk Tryz.prog (AnyOk Tryz.prog U) U stab2 := okEntG_cons mixed names (prS_ok lemOk_nil (stab1_ok U) lt_nil) teq_nil lemD_nil e_dig0 (stab1_ok U)
theorem e_dig1 : okEntG Tryz.prog (prS [] stab2 []) [] [] false 20000 (dgE 1) = true := by kernel_rfl
def stab3 : List Ent := (dgE 1) :: stab2
theorem stab3_ok (U : Int) : TabOk Tryz.prog (AnyOk Tryz.prog U) U stab3 := okEntG_cons mixed names (prS_ok lemOk_nil (stab2_ok U) lt_nil) teq_nil lemD_nil e_dig1 (stab2_ok U)
theorem e_dig2 : okEntG Tryz.prog (prS [] stab3 []) [] [] false 20000 (dgE 2) = true := by kernel_rfl
def stab4 : List Ent := (dgE 2) :: stab3
theorem stab4_ok (U : Int) : TabOk Tryz.prog (AnyOk Tryz.prog U) U stab4 := okEntG_cons mixed names (prS_ok lemOk_nil (stab3_ok U) lt_nil) teq_nil lemD_nil e_dig2 (stab3_ok U)
theorem e_dig3 : okEntG Tryz.prog (prS [] stab4 []) [] [] false 20000 (dgE 3) = true := by kernel_rfl
def stab5 : List Ent := (dgE 3) :: stab4
theorem stab5_ok (U : Int) : TabOk Tryz.prog (AnyOk Tryz.prog U) U stab5 := okEntG_cons mixed names (prS_ok lemOk_nil (stab4_ok U) lt_nil) teq_nil lemD_nil e_dig3 (stab4_ok U)
theorem e_dig4 : okEntG Tryz.prog (prS [] stab5 []) [] [] false 20000 (dgE 4) = true := by kernel_rfl
def stab6 : List Ent := (dgE 4) :: stab5
theorem stab6_ok (U : Int) : TabOk Tryz.prog (AnyOk Tryz.prog U) U stab6 := okEntG_cons mixed names (prS_ok lemOk_nil (stab5_ok U) lt_nil) teq_nil lemD_nil e_dig4 (stab5_ok U)
theorem e_dig5 : okEntG Tryz.prog (prS [] stab6 []) [] [] false 20000 (dgE 5) = true := by kernel_rfl
def stab7 : List Ent := (dgE 5) :: stab6
theorem stab7_ok (U : Int) : TabOk Tryz.prog (AnyOk Tryz.prog U) U stab7 := okEntG_cons mixed names (prS_ok lemOk_nil (stab6_ok U) lt_nil) teq_nil lemD_nil e_dig5 (stab6_ok U)
theorem e_dig6 : okEntG Tryz.prog (prS [] stab7 []) [] [] false 20000 (dgE 6) = true := by kernel_rfl
def stab8 : List Ent := (dgE 6) :: stab7
theorem stab8_ok (U : Int) : TabOk Tryz.prog (AnyOk Tryz.prog U) U stab8 := okEntG_cons mixed names (prS_ok lemOk_nil (stab7_ok U) lt_nil) teq_nil lemD_nil e_dig6 (stab7_ok U)
theorem e_dig7 : okEntG Tryz.prog (prS [] stab8 []) [] [] false 20000 (dgE 7) = true := by kernel_rfl
def stab9 : List Ent := (dgE 7) :: stab8
theorem stab9_ok (U : Int) : TabOk Tryz.prog (AnyOk Tryz.prog U) U stab9 := okEntG_cons mixed names (prS_ok lemOk_nil (stab8_ok U) lt_nil) teq_nil lemD_nil e_dig7 (stab8_ok U)
theorem e_dig8 : okEntG Tryz.prog (prS [] stab9 []) [] [] false 20000 (dgE 8) = true := by kernel_rfl
def stab10 : List Ent := (dgE 8) :: stab9
theorem stab10_ok (U : Int) : TabOk Tryz.prog (AnyOk Tryz.prog U) U stab10 := okEntG_cons mixed names (prS_ok lemOk_nil (stab9_ok U) lt_nil) teq_nil lemD_nil e_dig8 (stab9_ok U)
def tq_rnum : List TEq := pickL teqQ [172, 173, 174, 175, 176, 177, 178, 179, 425]
theorem tq_rnum_ok : TEqOk tq_rnum := teq_pick (ix := [172, 173, 174, 175, 176, 177, 178, 179, 425]) (teqQ_ok) (rfl)
theorem e_rnum : okEntG Tryz.prog (prS [] stab10 []) tq_rnum [] false 20000 rnum = true := by kernel_rfl
def stab11 : List Ent := rnum :: stab10
theorem stab11_ok (U : Int) : TabOk Tryz.prog (AnyOk Tryz.prog U) U stab11 := okEntG_cons mixed names (prS_ok lemOk_nil (stab10_ok U) lt_nil) tq_rnum_ok lemD_nil e_rnum (stab10_ok U)
def lm_take : List Lem := [⟨[], (.bin .leq .i64 (.f 0 [(.f 114 [(.x 0), (.x 1)])]) (.f 0 [(.f 114 [(.x 0), (.x 1)])])), true⟩,
 ⟨[((.bin .lss .i64 (.f 0 [(.f 114 [(.x 0), (.x 1)])]) (.bin .add .i64 (.c 1) (.bin .sub .i64 (.conv .i64 (.f 9 [(.f 114 [(.x 0), (.x 1)]), (.c 0)])) (.c 128)))), false)], (.bin .leq .i64 (.bin .add .i64 (.c 1) (.bin .sub .i64 (.conv .i64 (.f 9 [(.f 114 [(.x 0), (.x 1)]), (.c 0)])) (.c 128))) (.f 0 [(.f 114 [(.x 0), (.x 1)])])), true⟩]
theorem lm_take_ok : LemOk lm_take := lem_pick (ix := [55, 60]) (lemS_ok) (by kernel_rfl)
def tq_take : List TEq := pickL teqQ [55, 57, 181, 183, 184, 185, 186, 187, 188, 189, 190, 191, 192, 193, 194, 195, 196, 197, 198, 199, 200, 201, 202, 203, 204, 205, 206, 207, 208, 209, 210, 211, 212, 213, 214, 215, 216, 217, 218, 219, 220, 221, 222, 223, 224, 225, 226, 227, 228, 229, 230, 231, 232, 233, 234, 235, 236, 237, 238, 239, 240, 241, 242, 243, 244, 245, 246, 247, 248, 249, 250, 251, 252, 253, 254, 255, 256, 257, 258, 259, 260, 261, 262, 263, 264, 265, 266, 267, 268, 269, 270, 271, 272, 273, 274, 275, 276, 277, 278]
theorem tq_take_ok : TEqOk tq_take := teq_pick (ix := [55, 57, 181, 183, 184, 185, 186, 187, 188, 189, 190, 191, 192, 193, 194, 195, 196, 197, 198, 199, 200, 201, 202, 203, 204, 205, 206, 207, 208, 209, 210, 211, 212, 213, 214, 215, 216, 217, 218, 219, 220, 221, 222, 223, 224, 225, 226, 227, 228, 229, 230, 231, 232, 233, 234, 235, 236, 237, 238, 239, 240, 241, 242, 243, 244, 245, 246, 247, 248, 249, 250, 251, 252, 253, 254, 255, 256, 257, 258, 259, 260, 261, 262, 263, 264, 265, 266, 267, 268, 269, 270, 271, 272, 273, 274, 275, 276, 277, 278]) (teqQ_ok) (rfl)
theorem e_take : okEntG Tryz.prog (prS lm_take stab11 []) tq_take [] false 20000 takeR = true := by kernel_rfl
def stab12 : List Ent := takeR :: stab11
theorem stab12_ok (U : Int) : TabOk Tryz.prog (AnyOk Tryz.prog U) U stab12 := okEntG_cons mixed names (prS_ok lm_take_ok (stab11_ok U) lt_nil) tq_take_ok lemD_nil e_take (stab11_ok U)
def lm_take0 : List Lem := [⟨[], (.bin .leq .i64 (.f 0 [(.x 0)]) (.f 0 [(.x 0)])), true⟩,
 ⟨[((.bin .lss .i64 (.f 0 [(.x 0)]) (.bin .add .i64 (.c 1) (.bin .sub .i64 (.conv .i64 (.f 9 [(.x 0), (.c 0)])) (.c 128)))), false)], (.bin .leq .i64 (.bin .add .i64 (.c 1) (.bin .sub .i64 (.conv .i64 (.f 9 [(.x 0), (.c 0)])) (.c 128))) (.f 0 [(.x 0)])), true⟩]
theorem lm_take0_ok : LemOk lm_take0 := lem_pick (ix := [61, 62]) (lemS_ok) (by kernel_rfl)
def tq_take0 : List TEq := pickL teqQ [279, 280, 281, 282, 283, 284, 285, 286, 287, 288, 289, 290, 291, 292, 293, 294, 295, 296, 297, 298, 299, 300, 301, 302, 303, 304, 305, 306, 307, 308, 309, 310, 311, 312, 313, 314, 315, 316, 317, 318, 319, 320, 321, 322, 323, 324, 325, 326, 327, 328, 329, 330, 331, 332, 333, 334, 335, 336, 337, 338, 339, 340, 341, 342, 343, 344, 345, 346, 347, 348, 349, 350, 351, 352, 353, 354, 355, 356, 357, 358, 359, 360, 361, 362, 363, 364, 365, 366, 367, 368, 369, 370, 371, 372, 373, 374]
theorem tq_take0_ok : TEqOk tq_take0 := teq_pick (ix := [279, 280, 281, 282, 283, 284, 285, 286, 287, 288, 289, 290, 291, 292, 293, 294, 295, 296, 297, 298, 299, 300, 301, 302, 303, 304, 305, 306, 307, 308, 309, 310, 311, 312, 313, 314, 315, 316, 317, 318, 319, 320, 321, 322, 323, 324, 325, 326, 327, 328, 329, 330, 331, 332, 333, 334, 335, 336, 337, 338, 339, 340, 341, 342, 343, 344, 345, 346, 347, 348, 349, 350, 351, 352, 353, 354, 355, 356, 357, 358, 359, 360, 361, 362, 363, 364, 365, 366, 367, 368, 369, 370, 371, 372, 373, 374]) (teqQ_ok) (rfl)
theorem e_take0 : okEntG Tryz.prog (prS lm_take0 stab12 []) tq_take0 [] false 20000 takeR0 = true := by kernel_rfl
def stab13 : List Ent := takeR0 :: stab12
theorem stab13_ok (U : Int) : TabOk Tryz.prog (AnyOk Tryz.prog U) U stab13 := okEntG_cons mixed names (prS_ok lm_take0_ok (stab12_ok U) lt_nil) tq_take0_ok lemD_nil e_take0 (stab12_ok U)
def tq_wdot : List TEq := pickL teqQ [375, 376, 377, 378, 379]
theorem tq_wdot_ok : TEqOk tq_wdot := teq_pick (ix := [375, 376, 377, 378, 379]) (teqQ_ok) (rfl)
theorem e_wdot : okEntG Tryz.prog (prS [] stab13 []) tq_wdot [] false 20000 rdotW = true := by kernel_rfl
def stab14 : List Ent := rdotW :: stab13
theorem stab14_ok (U : Int) : TabOk Tryz.prog (AnyOk Tryz.prog U) U stab14 := okEntG_cons mixed names (prS_ok lemOk_nil (stab13_ok U) lt_nil) tq_wdot_ok lemD_nil e_wdot (stab13_ok U)
def tq_tdot : List TEq := pickL teqQ [375, 376, 377, 378, 379, 380, 381]
theorem tq_tdot_ok : TEqOk tq_tdot := teq_pick (ix := [375, 376, 377, 378, 379, 380, 381]) (teqQ_ok) (rfl)
theorem e_tdot : okEntG Tryz.prog (prS [] stab14 []) tq_tdot [] false 20000 rdotR = true := by kernel_rfl
def stab15 : List Ent := rdotR :: stab14
theorem stab15_ok (U : Int) : TabOk Tryz.prog (AnyOk Tryz.prog U) U stab15 := okEntG_cons mixed names (prS_ok lemOk_nil (stab14_ok U) lt_nil) tq_tdot_ok lemD_nil e_tdot (stab14_ok U)
def tq_open : List TEq := [⟨[], (.f 112 [(.c 0)]), (.c 0)⟩,
 ⟨[], (.f 113 [(.c 0)]), (.c 1)⟩]
theorem tq_open_ok : TEqOk tq_open := teq_pick (ix := [382, 383]) (teqQ_ok) (by kernel_rfl)
theorem e_open : okEntG Tryz.prog (prS [] stab15 []) tq_open [] false 20000 opn = true := by kernel_rfl
def stab16 : List Ent := opn :: stab15
theorem stab16_ok (U : Int) : TabOk Tryz.prog (AnyOk Tryz.prog U) U stab16 := okEntG_cons mixed names (prS_ok lemOk_nil (stab15_ok U) lt_nil) tq_open_ok lemD_nil e_open (stab15_ok U)
end Go.Proofs.YtcjbpaiomcfgnaaGreatDoor
