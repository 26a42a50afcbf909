/- DiskNone and head, run by the evaluator. -/
import Derived.Test.YtimlcedifnhjbaaE22
import Derived.Test.YtimlcedifnhjbaaProg
import Derived.KernelRfl
namespace Go.Proofs.Ytimlcedifnhjbaa
open Go Go.RowKit

theorem mixed : Try.prog.follows .mixedOrders = true := by kernel_rfl
theorem names : okNames Try.prog = true := by kernel_rfl
theorem cloned : PrimOk Try.prog [(51, 1, 0)] :=
  primOk_clone (fn := Try.f51) Try.func51 (by kernel_rfl) (by kernel_rfl) (by kernel_rfl) (by kernel_rfl)
set_option maxRecDepth 100000 in
theorem diskNone_true (v0 v1 v2 v3 : Value) : allTrue (eval Try.prog [(51, 1, 0)] 20000 (.call 4 [.agg [.ext v0, .ext v1, .ext v2, .ext v3]] st0)) = true := by kernel_rfl

theorem diskNone_any (v0 v1 v2 v3 : Value) (h0 : v0.oneCell' = true) (h1 : v1.oneCell' = true) (h2 : v2.oneCell' = true) (h3 : v3.oneCell' = true) (w : World) :
    Calls Try.prog 4 #[.agg #[v0, v1, v2, v3]] w fun e w' => e = .returned (.bool true) ∧ Below w.heap.size w w' :=
  eval_true (VS := [.agg #[v0, v1, v2, v3]]) mixed names cloned (diskNone_true v0 v1 v2 v3) (by simp [den, denL, h0, h1, h2, h3]) w

end Go.Proofs.Ytimlcedifnhjbaa
