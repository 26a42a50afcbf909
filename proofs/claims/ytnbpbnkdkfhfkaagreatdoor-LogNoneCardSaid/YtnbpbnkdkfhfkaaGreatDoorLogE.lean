/- LogNone, run by the evaluator. -/
import Derived.Test.YtnbpbnkdkfhfkaaGreatDoorLogT
import Derived.Test.YtnbpbnkdkfhfkaaGreatDoorProg
import Derived.KernelRfl
namespace Go.Proofs.YtnbpbnkdkfhfkaaGreatDoor
open Go Go.RowKit

theorem mixed : Tryz.prog.follows .mixedOrders = true := by kernel_rfl
theorem names : okNames Tryz.prog = true := by kernel_rfl
theorem logPrims (tab : List Ent) (ptab : List PEnt) : PrimOk Tryz.prog ⟨[(68, 1, 0), (80, 2, 0), (153, 5, 0)], tab, ptab⟩ :=
  primOk_cons (primOk_clone (fn := Tryz.f68) Tryz.func68 (by kernel_rfl) (by kernel_rfl) (by kernel_rfl) (by kernel_rfl))
    (primOk_cons (primOk_noEscape (fn := Tryz.f80) Tryz.func80 (by kernel_rfl) (by kernel_rfl) (by kernel_rfl) (by kernel_rfl))
      (primOk_cons (primOk_indexByte (fn := Tryz.f153) Tryz.func153 (by kernel_rfl) (by kernel_rfl) (by kernel_rfl) (by kernel_rfl)) primOk_nil))
/-- what the opaque cells stand for -/
def extMap (cs : List Value) : Nat → Option Dat := fun i => (cs[i]?).map .v
set_option maxRecDepth 100000 in
theorem logNone_true : allTrue (eval Tryz.prog ⟨[(68, 1, 0), (80, 2, 0), (153, 5, 0)], ltab, lptab⟩ 20000 (.call 3 [.ext 0] st0)) = true := by kernel_rfl

theorem logNone_any (v : Value) (ho : v.oneCell' = true) (w : World) :
    Calls Tryz.prog 3 #[v] w fun e w' => e = .returned (.bool true) ∧ Below w.heap.size w w' :=
  eval_true (VS := [v]) mixed names (logPrims ltab lptab) (ltabOk mixed names logPrims (lptabOk mixed names logPrims)) (lptabOk mixed names logPrims) logNone_true (extMap [v]) (by
    simp [denL, den, extMap, ho]) w

end Go.Proofs.YtnbpbnkdkfhfkaaGreatDoor
