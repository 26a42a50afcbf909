/- StoreNone, run by the evaluator. -/
import Derived.Test.YtlijlapkhimaoaaGreatDoorStoreT2
import Derived.Test.YtlijlapkhimaoaaGreatDoorProg
import Derived.KernelRfl
namespace Go.Proofs.YtlijlapkhimaoaaGreatDoor
open Go Go.RowKit

theorem mixed : Tryz.prog.follows .mixedOrders = true := by kernel_rfl
theorem names : okNames Tryz.prog = true := by kernel_rfl
theorem storePrims (tab : List Ent) (ptab : List PEnt) : PrimOk Tryz.prog ⟨[(271, 1, 0), (445, 2, 0), (551, 5, 0)], tab, ptab⟩ :=
  primOk_cons (primOk_clone (fn := Tryz.f271) Tryz.func271 (by kernel_rfl) (by kernel_rfl) (by kernel_rfl) (by kernel_rfl))
    (primOk_cons (primOk_noEscape (fn := Tryz.f445) Tryz.func445 (by kernel_rfl) (by kernel_rfl) (by kernel_rfl) (by kernel_rfl))
      (primOk_cons (primOk_indexByte (fn := Tryz.f551) Tryz.func551 (by kernel_rfl) (by kernel_rfl) (by kernel_rfl) (by kernel_rfl)) primOk_nil))
/-- opaque cells, named from k on -/
def exts : Nat → Nat → List AV
  | 0, _ => []
  | n + 1, k => .ext k :: exts n (k + 1)
/-- what they stand for -/
def extMap (cs : List Value) : Nat → Option Dat := fun i => (cs[i]?).map .v
theorem exts_den (cs : List Value) : ∀ (n k : Nat), k + n ≤ cs.length → (∀ c ∈ cs, c.oneCell' = true) → denL ⟨fun _ => none, extMap cs, fun _ _ => none⟩ (exts n k) = some ((cs.drop k).take n)
  | 0, k, _, _ => by simp [exts, denL]
  | n + 1, k, h, ho => by
    have hk : k < cs.length := by omega
    rw [List.drop_eq_getElem_cons hk, List.take_succ_cons]
    refine denL_mk ?_ (exts_den cs n (k + 1) (by omega) ho)
    simp only [den, extMap, List.getElem?_eq_getElem hk, Option.map_some]
    rw [if_pos (ho _ (List.getElem_mem hk))]
set_option maxRecDepth 100000 in
theorem storeNone_true : allTrue (eval Tryz.prog ⟨[(271, 1, 0), (445, 2, 0), (551, 5, 0)], qtab116, lptab⟩ 20000 (.call 3 [.agg (exts 18 0), .agg (exts 2 18), .ext 20] (stG pgl))) = true := by kernel_rfl

theorem storeNone_any (cs ds : List Value) (v : Value) (hl : cs.length = 18) (hd : ds.length = 2) (ho : ∀ c ∈ cs, c.oneCell' = true) (hod : ∀ c ∈ ds, c.oneCell' = true) (hv : v.oneCell' = true) (w : World) (hgl : GlobOk ⟨fun _ => none, extMap (cs ++ (ds ++ [v])), fun _ _ => none⟩ pgl w) :
    Calls Tryz.prog 3 #[.agg cs.toArray, .agg ds.toArray, v] w fun e w' => e = .returned (.bool true) ∧ Below w.heap.size w w' :=
  eval_trueG (VS := [.agg cs.toArray, .agg ds.toArray, v]) mixed names (storePrims qtab116 lptab) (qokk2 mixed names storePrims (lptabOk mixed names storePrims)) (lptabOk mixed names storePrims) storeNone_true (extMap (cs ++ (ds ++ [v]))) (by
    have hall : ∀ c ∈ cs ++ (ds ++ [v]), c.oneCell' = true := fun c hc => by
      rcases List.mem_append.1 hc with h | h
      · exact ho c h
      · rcases List.mem_append.1 h with h | h
        · exact hod c h
        · rw [List.mem_singleton.1 h]; exact hv
    have h := exts_den (cs ++ (ds ++ [v])) 18 0 (by simp; omega) hall
    rw [List.drop_zero, List.take_append_of_le_length (by omega), List.take_of_length_le (by omega)] at h
    have h1 := exts_den (cs ++ (ds ++ [v])) 2 18 (by simp; omega) hall
    rw [show 18 = cs.length by omega, List.drop_left, List.take_append_of_le_length (by omega), List.take_of_length_le (by omega), hl] at h1
    have h2 : extMap (cs ++ (ds ++ [v])) 20 = some (.v v) := by
      simp only [extMap]
      rw [List.getElem?_append_right (by omega), List.getElem?_append_right (by omega), show 20 - cs.length - ds.length = 0 by omega]
      rfl
    simp only [denL, den, h, h1, h2, hv, if_true]) w hgl

end Go.Proofs.YtlijlapkhimaoaaGreatDoor
