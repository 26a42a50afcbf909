/- WorldNone, run by the evaluator: plans of seven and eight. -/
import Derived.Test.YtpifcidnpbkaoaaGreatDoorWnE
namespace Go.Proofs.YtpifcidnpbkaoaaGreatDoor
open Go Go.RowKit
set_option maxRecDepth 100000
theorem wn_7 : allTrue (eval Tryz.prog ⟨wpl, qtab105, wptab⟩ 20000 (.call 3 [.agg (.int .i64 7 :: syms 3 1), .agg (exts 23 4)] (stQ pgl []))) = true := by kernel_rfl
theorem wn_8 : allTrue (eval Tryz.prog ⟨wpl, qtab105, wptab⟩ 20000 (.call 3 [.agg (.int .i64 8 :: syms 3 1), .agg (exts 23 4)] (stQ pgl []))) = true := by kernel_rfl

end Go.Proofs.YtpifcidnpbkaoaaGreatDoor
