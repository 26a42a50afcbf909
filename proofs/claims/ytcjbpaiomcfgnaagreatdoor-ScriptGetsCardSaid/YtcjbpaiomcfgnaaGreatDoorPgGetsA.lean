/- ScriptGets: its argument, its run. -/
import Derived.Test.YtcjbpaiomcfgnaaGreatDoorHgR
import Derived.Test.YtcjbpaiomcfgnaaGreatDoorGf
namespace Go.Proofs.YtcjbpaiomcfgnaaGreatDoor
open Go Go.RowKit
set_option maxRecDepth 100000
def datG (l : List UInt8) : Nat → Option Dat
 | 0 => some (.s l)
 | _ => none
theorem gets_good {H : Type} {enc : TypeId × Value → H} {W : World} {v : Value} (h : LeafW enc Tryz.prog W reachBytes v 9) (hgl : ∀ ν : Nm, GlobOk ν pgl W) :
  Calls Tryz.prog 4 #[v] W fun e W' => e = .returned (.bool true) ∧ Below W.heap.size W W' := by
 obtain ⟨fuel, x, h1, h2⟩ := h
 obtain ⟨s, hs, rfl, _⟩ := DataW.trod_string Tryz.underlying9 h1
 obtain rfl : v = .string s := by simpa using hs
 have hl : s.data.toList.length ≤ reachBytes := h2 _ (List.mem_cons_self ..)
 have he : (⟨s.data.toList.toArray⟩ : ByteArray) = s := by simp
 refine eval_trueQ (U := 0) mixed names (prL_gets_ok 0) gets_run (datG s.data.toList) (fun j hj => ?_) W ?_ (hgl _) ?_ ?_ (VS := [.string s])
 ·cases j with
  | zero => exact absurd hj (by decide)
  | succ j => rfl
 ·refine denL_mk ?_ rfl
  show some (Value.string ⟨s.data.toList.toArray⟩) = some (.string s)
  rw [he]
 ·intro t b hb
  simp only [List.mem_cons, List.not_mem_nil, or_false] at hb
  rcases hb with hb | hb
  ·cases hb
   refine so_cmp_mk (fun _ _ => rfl) (x := s.data.toList.length) (y := 1000000000000000) (den_f0.2 ⟨.s s.data.toList, _, rfl, rfl, rfl⟩) rfl (decide_eq_true ?_)
   have : reachBytes = 140737488351232 := rfl
   omega
  ·cases hb
   exact so_STR.2 ⟨.s s.data.toList, rfl, rfl⟩
 ·intro j d hd
  cases j with
  | zero =>
   injection hd with hd
   subst hd
   trivial
  | succ j => cases hd
end Go.Proofs.YtcjbpaiomcfgnaaGreatDoor
