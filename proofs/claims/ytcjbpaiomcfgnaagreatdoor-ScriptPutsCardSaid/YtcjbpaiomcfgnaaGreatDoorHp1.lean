/- ScriptPuts, run by the evaluator: what is known of the head. (Printed by gen_pgf.py.) -/
import Derived.Test.YtcjbpaiomcfgnaaGreatDoorPgEp
import Derived.Test.YtcjbpaiomcfgnaaGreatDoorPgZp
import Derived.Test.YtcjbpaiomcfgnaaGreatDoorGf
import Derived.Test.YtcjbpaiomcfgnaaGreatDoorHeadT1
namespace Go.Proofs.YtcjbpaiomcfgnaaGreatDoor
open Go Go.RowKit
set_option maxRecDepth 100000
def nthL {α : Type} : List α → Nat → Option α
 | [], _ => none
 | x :: _, 0 => some x
 | _ :: l, n + 1 => nthL l n
theorem nthL_mem {α : Type} : ∀ {l : List α} {n : Nat} {x : α}, nthL l n = some x → x ∈ l
 | [], _, _, h => by cases h
 | y :: l, 0, x, h => by
  simp only [nthL, Option.some.injEq] at h
  exact h ▸ List.mem_cons_self ..
 | y :: l, n + 1, x, h => List.mem_cons_of_mem _ (nthL_mem (l := l) h)
/-- some of a list -/
def pickL {α : Type} (l : List α) : List Nat → List α
 | [] => []
 | i :: r => match nthL l i with
  | some x => x :: pickL l r
  | none => pickL l r
theorem pickL_mem {α : Type} {l : List α} {x : α} : ∀ {ix : List Nat}, x ∈ pickL l ix → x ∈ l
 | [], h => by cases h
 | i :: r, h => by
  simp only [pickL] at h
  split at h
  ·rename_i y hy
   rcases List.mem_cons.1 h with rfl | h
   ·exact nthL_mem hy
   ·exact pickL_mem h
  ·exact pickL_mem h
theorem lem_pick {l m : List Lem} {ix : List Nat} (hl : LemOk l) (h : m = pickL l ix) : LemOk m := fun e he => hl e (pickL_mem (h ▸ he))
theorem lemD_pick {l m : List Lem} {ix : List Nat} (hl : LemD l) (h : m = pickL l ix) : LemD m := fun e he => hl e (pickL_mem (h ▸ he))
theorem teq_pick {l m : List TEq} {ix : List Nat} (hl : TEqOk l) (h : m = pickL l ix) : TEqOk m := fun e he => hl e (pickL_mem (h ▸ he))
theorem mixed : Tryz.prog.follows .mixedOrders = true := by kernel_rfl
theorem names : okNames Tryz.prog = true := by kernel_rfl
def spl : List (Nat × Nat × Nat) := [(217, 1, 0), (552, 2, 0), (611, 5, 0)]
theorem sprims : PrimOkL Tryz.prog spl :=
 primOk_cons (primOk_clone (fn := Tryz.f217) Tryz.func217 (by kernel_rfl) (by kernel_rfl) (by kernel_rfl) (by kernel_rfl))
  (primOk_cons (primOk_noEscape (fn := Tryz.f552) Tryz.func552 (by kernel_rfl) (by kernel_rfl) (by kernel_rfl) (by kernel_rfl))
   (primOk_cons (primOk_indexByte (fn := Tryz.f611) Tryz.func611 (by kernel_rfl) (by kernel_rfl) (by kernel_rfl) (by kernel_rfl)) primOk_nil))
theorem sheadTab (U : Int) : TabOk Tryz.prog (AnyOk Tryz.prog U) U qtab34 := qokk1 mixed names sprims (lptabOk mixed names sprims)
def headEnt : PEnt := ⟨7, pgl, [], .bool true⟩
theorem headEnt_ok : okPEntG Tryz.prog ⟨spl, qtab34, lptab, [], [], []⟩ 20000 headEnt = true := by kernel_rfl
def sptab : List PEnt := headEnt :: lptab
theorem sptabOk : PTabOk Tryz.prog sptab := okPEntG_cons (U := 0) mixed names (prOk_tab sprims (sheadTab 0) (lptabOk mixed names sprims)) headEnt_ok (lptabOk mixed names sprims)
def lemS : List Lem := lemQ 47
def lemDS : List Lem := lemDQ 47 89
theorem lemS_ok : LemOk lemS := lemQ_ok _
theorem lemDS_ok : LemD lemDS := lemDQ_ok _ _
def prS (lm : List Lem) (tab : List Ent) (lt : List LEnt) : Pr := ⟨spl, tab, sptab, lm, lt, rt0⟩
theorem prS_ok {lm : List Lem} (hL : LemOk lm) {U : Int} {tab : List Ent} {lt : List LEnt} (hT : TabOk Tryz.prog (AnyOk Tryz.prog U) U tab) (hLT : LoopOk Tryz.prog (AnyOk Tryz.prog U) U lt) : PrOk Tryz.prog U (prS lm tab lt) := ⟨sprims.of, hL, hT, sptabOk, hLT⟩
end Go.Proofs.YtcjbpaiomcfgnaaGreatDoor
