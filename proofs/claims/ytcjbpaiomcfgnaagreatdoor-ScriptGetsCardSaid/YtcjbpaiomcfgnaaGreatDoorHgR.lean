/- ScriptGets, run by the evaluator: ScriptGets answers true. (Printed by gen_pgf.py.) -/
import Derived.Test.YtcjbpaiomcfgnaaGreatDoorHg8
namespace Go.Proofs.YtcjbpaiomcfgnaaGreatDoor
open Go Go.RowKit
set_option maxRecDepth 100000
def lm_gets : List Lem := pickL lemS [0, 1, 2, 3, 4, 5, 6, 7, 8, 9, 10, 11, 12, 13, 14]
theorem lm_gets_ok : LemOk lm_gets := lem_pick (ix := [0, 1, 2, 3, 4, 5, 6, 7, 8, 9, 10, 11, 12, 13, 14]) (lemS_ok) (rfl)
def prL_gets : Pr := prS lm_gets stab29 slt10
theorem prL_gets_ok (U : Int) : PrOk Tryz.prog U prL_gets := prS_ok lm_gets_ok (stab29_ok U) (slt10_ok U)
theorem gets_run : allTrue (eval Tryz.prog prL_gets 20000 (.call 4 [.symS (.x 0)] (stQ pgl [sz4 (.x 0), STR (.x 0)]))) = true := by kernel_rfl
end Go.Proofs.YtcjbpaiomcfgnaaGreatDoor
