/- ScriptPuts, run by the evaluator: ScriptPuts answers true. (Printed by gen_pgf.py.) -/
import Derived.Test.YtcjbpaiomcfgnaaGreatDoorHp8
namespace Go.Proofs.YtcjbpaiomcfgnaaGreatDoor
open Go Go.RowKit
set_option maxRecDepth 100000
def lm_puts : List Lem := pickL lemS [0, 1, 2, 3, 4, 5, 6, 7, 8, 9, 10, 11, 12]
theorem lm_puts_ok : LemOk lm_puts := lem_pick (ix := [0, 1, 2, 3, 4, 5, 6, 7, 8, 9, 10, 11, 12]) (lemS_ok) (rfl)
def prL_puts : Pr := prS lm_puts stab28 slt13
theorem prL_puts_ok (U : Int) : PrOk Tryz.prog U prL_puts := prS_ok lm_puts_ok (stab28_ok U) (slt13_ok U)
theorem puts_run : allTrue (eval Tryz.prog prL_puts 20000 (.call 3 [.agg [.sym .i64 (.conv .i64 (.x 4)), .sym .i64 (.conv .i64 (.x 5)), .sym .i64 (.conv .i64 (.x 6)), .sym .i64 (.conv .i64 (.x 7))], deepA 1] (stQ pgl (SZL (.x 1) :: rowP (.x 1))))) = true := by kernel_rfl
end Go.Proofs.YtcjbpaiomcfgnaaGreatDoor
