/- WorldNone, run by the evaluator: its head; what its data are. -/
import Derived.Test.YtpifcidnpbkaoaaGreatDoorHeadT3
import Derived.Test.YtpifcidnpbkaoaaGreatDoorGg
namespace Go.Proofs.YtpifcidnpbkaoaaGreatDoor
open Go Go.RowKit

theorem mixed : Tryz.prog.follows .mixedOrders = true := by kernel_rfl
theorem names : okNames Tryz.prog = true := by kernel_rfl
def wpl : List (Nat × Nat × Nat) := [(148, 1, 0), (513, 2, 0), (597, 5, 0)]
theorem worldPrims (tab : List Ent) (ptab : List PEnt) : PrimOk Tryz.prog ⟨[(148, 1, 0), (513, 2, 0), (597, 5, 0)], tab, ptab⟩ :=
  primOk_cons (primOk_clone (fn := Tryz.f148) Tryz.func148 (by kernel_rfl) (by kernel_rfl) (by kernel_rfl) (by kernel_rfl))
    (primOk_cons (primOk_noEscape (fn := Tryz.f513) Tryz.func513 (by kernel_rfl) (by kernel_rfl) (by kernel_rfl) (by kernel_rfl))
      (primOk_cons (primOk_indexByte (fn := Tryz.f597) Tryz.func597 (by kernel_rfl) (by kernel_rfl) (by kernel_rfl) (by kernel_rfl)) primOk_nil))
theorem worldTab : TabOk Tryz.prog (AnyOk Tryz.prog) qtab105 := qokk3 mixed names worldPrims (lptabOk mixed names worldPrims)
def headEnt : PEnt := ⟨11, pgl, [], .bool true⟩
set_option maxRecDepth 100000 in
theorem headEnt_ok : okPEntT Tryz.prog wpl qtab105 lptab 20000 headEnt = true := by kernel_rfl
def wptab : List PEnt := headEnt :: lptab
theorem wptabOk : PTabOk Tryz.prog wptab := okPEntT_cons mixed names (worldPrims qtab105 lptab) worldTab (lptabOk mixed names worldPrims) headEnt_ok
noncomputable def wpr : Pr := ⟨wpl, qtab105, wptab⟩

/-- numbers, named from k on -/
def syms : Nat → Nat → List AV
  | 0, _ => []
  | n + 1, k => .sym .i64 (.x k) :: syms n (k + 1)
/-- opaque cells, named from k on -/
def exts : Nat → Nat → List AV
  | 0, _ => []
  | n + 1, k => .ext k :: exts n (k + 1)
/-- what they stand for: four numbers, then cells -/
def wmap (n b l r : Int) (cs : List Value) : Nat → Option Dat
  | 0 => some (.n n)
  | 1 => some (.n b)
  | 2 => some (.n l)
  | 3 => some (.n r)
  | i + 4 => (cs[i]?).map .v
theorem wexts_den (n b l r : Int) (cs : List Value) : ∀ (m k : Nat), k + m ≤ cs.length → (∀ c ∈ cs, c.oneCell' = true) → denL ⟨fun _ => none, wmap n b l r cs, fun _ _ => none⟩ (exts m (k + 4)) = some ((cs.drop k).take m)
  | 0, k, _, _ => by simp [exts, denL]
  | m + 1, k, h, ho => by
    have hk : k < cs.length := by omega
    rw [List.drop_eq_getElem_cons hk, List.take_succ_cons]
    have ih := wexts_den n b l r cs m (k + 1) (by omega) ho
    rw [show k + 1 + 4 = k + 4 + 1 by omega] at ih
    refine denL_mk ?_ ih
    simp only [den, wmap, List.getElem?_eq_getElem hk, Option.map_some]
    rw [if_pos (ho _ (List.getElem_mem hk))]
def Good (f : Nat) (n b l r : Int) (cs : List Value) : Prop :=
  ∀ w : World, GlobOk ⟨fun _ => none, wmap n b l r cs, fun _ _ => none⟩ pgl w →
    Calls Tryz.prog f #[.agg #[.int .i64 n, .int .i64 b, .int .i64 l, .int .i64 r], .agg cs.toArray] w fun e w' => e = .returned (.bool true) ∧ Below w.heap.size w w'
theorem good_of {f : Nat} {n : Int} (h : allTrue (eval Tryz.prog ⟨wpl, qtab105, wptab⟩ 20000 (.call f [.agg (.int .i64 n :: syms 3 1), .agg (exts 23 4)] (stQ pgl []))) = true)
    (b l r : Int) (cs : List Value) (hl : cs.length = 23) (ho : ∀ c ∈ cs, c.oneCell' = true) : Good f n b l r cs := fun w hgl => by
  have h1 := wexts_den n b l r cs 23 0 (by omega) ho
  rw [List.drop_zero, List.take_of_length_le (by omega)] at h1
  exact eval_trueP (VS := [.agg #[.int .i64 n, .int .i64 b, .int .i64 l, .int .i64 r], .agg cs.toArray]) mixed names (worldPrims qtab105 wptab) worldTab wptabOk h _ (by
    simp only [denL, den, syms, denT, wmap]
    rw [h1]) w hgl (fun t b hb => by cases hb)
theorem good_if {f : Nat} {n c : Int} {o : BinOp} (h : allTrue (eval Tryz.prog ⟨wpl, qtab105, wptab⟩ 20000 (.call f [.agg (syms 4 0), .agg (exts 23 4)] (stQ pgl [(.bin o .i64 (.x 0) (.c c), true)]))) = true)
    (hc : binZ o .i64 n c = some (.n 1)) (b l r : Int) (cs : List Value) (hl : cs.length = 23) (ho : ∀ c ∈ cs, c.oneCell' = true) : Good f n b l r cs := fun w hgl => by
  have h1 := wexts_den n b l r cs 23 0 (by omega) ho
  rw [List.drop_zero, List.take_of_length_le (by omega)] at h1
  exact eval_trueP (VS := [.agg #[.int .i64 n, .int .i64 b, .int .i64 l, .int .i64 r], .agg cs.toArray]) mixed names (worldPrims qtab105 wptab) worldTab wptabOk h _ (by
    simp only [denL, den, syms, denT, wmap]
    rw [h1]) w hgl (fun t b hb => by
      simp only [List.mem_singleton, Prod.mk.injEq] at hb
      obtain ⟨rfl, rfl⟩ := hb
      exact ⟨1, by simp only [denT, wmap]; exact hc, rfl⟩)

end Go.Proofs.YtpifcidnpbkaoaaGreatDoor
