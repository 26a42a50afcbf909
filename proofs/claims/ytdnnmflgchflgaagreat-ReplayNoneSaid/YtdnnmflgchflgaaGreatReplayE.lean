/- ReplayNone, run by the evaluator. -/
import Derived.Test.YtdnnmflgchflgaaGreatE22
import Derived.Test.YtdnnmflgchflgaaGreatProg
import Derived.Test.YtdnnmflgchflgaaGreatReplayT
import Derived.KernelRfl
namespace Go.Proofs.YtdnnmflgchflgaaGreat
open Go Go.RowKit

theorem mixed : Tryz.prog.follows .mixedOrders = true := by kernel_rfl
theorem names : okNames Tryz.prog = true := by kernel_rfl
theorem noPrims (tab : List Ent) : PrimOk Tryz.prog ⟨[], tab⟩ := fun g k t h => by cases h
/-- opaque cells, named from k on -/
def exts : Nat → Nat → List AV
  | 0, _ => []
  | n + 1, k => .ext k :: exts n (k + 1)
/-- what they stand for -/
def extMap (cs : List Value) : Nat → Option Dat := fun i => (cs[i]?).map .v
theorem exts_den (cs : List Value) : ∀ (n k : Nat), k + n ≤ cs.length → (∀ c ∈ cs, c.oneCell' = true) → denL ⟨fun _ => none, extMap cs, fun _ _ => none⟩ (exts n k) = some ((cs.drop k).take n)
  | 0, k, _, _ => by simp [exts, denL]
  | n + 1, k, h, ho => by
    have hk : k < cs.length := by omega
    rw [List.drop_eq_getElem_cons hk, List.take_succ_cons]
    refine denL_mk ?_ (exts_den cs n (k + 1) (by omega) ho)
    simp only [den, extMap, List.getElem?_eq_getElem hk, Option.map_some]
    rw [if_pos (ho _ (List.getElem_mem hk))]
set_option maxRecDepth 100000 in
theorem replayNone_true : allTrue (eval Tryz.prog ⟨[], rtab⟩ 20000 (.call 3 [.agg (exts 29 0)] st0)) = true := by kernel_rfl

theorem replayNone_any (cs : List Value) (hl : cs.length = 29) (ho : ∀ c ∈ cs, c.oneCell' = true) (w : World) :
    Calls Tryz.prog 3 #[.agg cs.toArray] w fun e w' => e = .returned (.bool true) ∧ Below w.heap.size w w' :=
  eval_true (VS := [.agg cs.toArray]) mixed names (noPrims rtab) (rtabOk mixed names noPrims) replayNone_true (extMap cs) (by
    have h := exts_den cs 29 0 (by omega) ho
    rw [List.drop_zero, List.take_of_length_le (by omega)] at h
    simp only [denL, den, h]) w

end Go.Proofs.YtdnnmflgchflgaaGreat
