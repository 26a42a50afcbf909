/- PeerNone, run by the evaluator. -/
import Derived.Test.YtejgdchipppgeaaGreatDoorPeerT4
import Derived.Test.YtejgdchipppgeaaGreatDoorProg
import Derived.KernelRfl
namespace Go.Proofs.YtejgdchipppgeaaGreatDoor
open Go Go.RowKit

theorem mixed : Tryz.prog.follows .mixedOrders = true := by kernel_rfl
theorem names : okNames Tryz.prog = true := by kernel_rfl
theorem peerPrims (tab : List Ent) (ptab : List PEnt) : PrimOk Tryz.prog ⟨[(124, 1, 0), (228, 2, 0), (288, 5, 0)], tab, ptab⟩ :=
  primOk_cons (primOk_clone (fn := Tryz.f124) Tryz.func124 (by kernel_rfl) (by kernel_rfl) (by kernel_rfl) (by kernel_rfl))
    (primOk_cons (primOk_noEscape (fn := Tryz.f228) Tryz.func228 (by kernel_rfl) (by kernel_rfl) (by kernel_rfl) (by kernel_rfl))
      (primOk_cons (primOk_indexByte (fn := Tryz.f288) Tryz.func288 (by kernel_rfl) (by kernel_rfl) (by kernel_rfl) (by kernel_rfl)) primOk_nil))
/-- opaque cells, named from k on -/
def exts : Nat → Nat → List AV
  | 0, _ => []
  | n + 1, k => .ext k :: exts n (k + 1)
/-- what they stand for -/
def extMap (cs : List Value) : Nat → Option Dat := fun i => (cs[i]?).map .v
theorem exts_den (cs : List Value) : ∀ (n k : Nat), k + n ≤ cs.length → (∀ c ∈ cs, c.oneCell' = true) → denL ⟨fun _ => none, extMap cs, fun _ _ => none⟩ (exts n k) = some ((cs.drop k).take n)
  | 0, k, _, _ => by simp [exts, denL]
  | n + 1, k, h, ho => by
    have hk : k < cs.length := by omega
    rw [List.drop_eq_getElem_cons hk, List.take_succ_cons]
    refine denL_mk ?_ (exts_den cs n (k + 1) (by omega) ho)
    simp only [den, extMap, List.getElem?_eq_getElem hk, Option.map_some]
    rw [if_pos (ho _ (List.getElem_mem hk))]
set_option maxRecDepth 100000 in
theorem peerNone_true : allTrue (eval Tryz.prog ⟨[(124, 1, 0), (228, 2, 0), (288, 5, 0)], qtab35, lptab⟩ 20000 (.call 3 [.agg (exts 29 0), .ext 29] (stG pgl))) = true := by kernel_rfl

theorem peerNone_any (cs : List Value) (v : Value) (hl : cs.length = 29) (ho : ∀ c ∈ cs, c.oneCell' = true) (hv : v.oneCell' = true) (w : World) (hgl : GlobOk ⟨fun _ => none, extMap (cs ++ [v]), fun _ _ => none⟩ pgl w) :
    Calls Tryz.prog 3 #[.agg cs.toArray, v] w fun e w' => e = .returned (.bool true) ∧ Below w.heap.size w w' :=
  eval_trueG (VS := [.agg cs.toArray, v]) mixed names (peerPrims qtab35 lptab) (qokk4 mixed names peerPrims (lptabOk mixed names peerPrims)) (lptabOk mixed names peerPrims) peerNone_true (extMap (cs ++ [v])) (by
    have h := exts_den (cs ++ [v]) 29 0 (by simp; omega) (fun c hc => by
      rcases List.mem_append.1 hc with h | h
      · exact ho c h
      · rw [List.mem_singleton.1 h]; exact hv)
    rw [List.drop_zero, List.take_append_of_le_length (by omega), List.take_of_length_le (by omega)] at h
    have h2 : extMap (cs ++ [v]) 29 = some (.v v) := by simp [extMap, ← hl]
    simp only [denL, den, h, h2, hv, if_true]) w hgl

end Go.Proofs.YtejgdchipppgeaaGreatDoor
