/- WorldNone, run by the evaluator: plans of up to five replicas. -/
import Derived.Test.YtpifcidnpbkaoaaGreatDoorWnE
namespace Go.Proofs.YtpifcidnpbkaoaaGreatDoor
open Go Go.RowKit
set_option maxRecDepth 100000
theorem wn_lo : allTrue (eval Tryz.prog ⟨wpl, qtab105, wptab⟩ 20000 (.call 3 [.agg (syms 4 0), .agg (exts 23 4)] (stQ pgl [(.bin .lss .i64 (.x 0) (.c 1), true)]))) = true := by kernel_rfl
theorem wn_hi : allTrue (eval Tryz.prog ⟨wpl, qtab105, wptab⟩ 20000 (.call 3 [.agg (syms 4 0), .agg (exts 23 4)] (stQ pgl [(.bin .gtr .i64 (.x 0) (.c 8), true)]))) = true := by kernel_rfl
theorem wn_1 : allTrue (eval Tryz.prog ⟨wpl, qtab105, wptab⟩ 20000 (.call 3 [.agg (.int .i64 1 :: syms 3 1), .agg (exts 23 4)] (stQ pgl []))) = true := by kernel_rfl
theorem wn_2 : allTrue (eval Tryz.prog ⟨wpl, qtab105, wptab⟩ 20000 (.call 3 [.agg (.int .i64 2 :: syms 3 1), .agg (exts 23 4)] (stQ pgl []))) = true := by kernel_rfl
theorem wn_3 : allTrue (eval Tryz.prog ⟨wpl, qtab105, wptab⟩ 20000 (.call 3 [.agg (.int .i64 3 :: syms 3 1), .agg (exts 23 4)] (stQ pgl []))) = true := by kernel_rfl
theorem wn_4 : allTrue (eval Tryz.prog ⟨wpl, qtab105, wptab⟩ 20000 (.call 3 [.agg (.int .i64 4 :: syms 3 1), .agg (exts 23 4)] (stQ pgl []))) = true := by kernel_rfl

end Go.Proofs.YtpifcidnpbkaoaaGreatDoor
