/- flat arguments: cells one by one -/
import Derived.Test.YtlijlapkhimaoaaGreatDoorFrame
namespace Go.Proofs.YtlijlapkhimaoaaGreatDoor
open Go.ChangeShapes Go.WideShapes Go.ChangeAt Go.RowKit
section
variable {H : Type} {enc : TypeId × Value → H} {P : Program} {w : World}

def leafOne (P : Program) (t : TypeId) : Bool :=
  match P.underlying t with
  | some (.int _) => true
  | some .string => true
  | some .bool => true
  | some (.slice _) => true
  | _ => false
theorem Leaf.one {c : Value} {t : TypeId} (h : Leaf enc P w c t) (hk : leafOne P t = true) : c.oneCell' = true := by
  unfold leafOne at hk
  obtain ⟨fuel, x, h⟩ := h
  split at hk
  · rename_i k ht
    obtain ⟨n, e, _⟩ := DataW.trod_int ht h
    obtain rfl : c = _ := by simpa using e
    rfl
  · rename_i ht
    obtain ⟨n, e, _⟩ := DataW.trod_string ht h
    obtain rfl : c = _ := by simpa using e
    rfl
  · rename_i ht
    obtain ⟨n, e, _⟩ := DataW.trod_bool ht h
    obtain rfl : c = _ := by simpa using e
    rfl
  · rename_i e ht
    rcases DataW.trod_slice ht h with ⟨e, _⟩ | ⟨a, len, cap, elems, rest, n, _, e, _⟩
    · obtain rfl : c = _ := by simpa using e
      rfl
    · obtain rfl : c = _ := by simpa using e
      rfl
  · cases hk
theorem flat_ones {cs : List Value} {ts : List TypeId} (h : All2 (Leaf enc P w) cs ts) (hk : ts.all (leafOne P) = true) : cs.length = ts.length ∧ ∀ c ∈ cs, c.oneCell' = true := by
  induction ts generalizing cs with
  | nil =>
    cases cs with
    | nil => exact ⟨rfl, fun c hc => by simp at hc⟩
    | cons _ _ => exact h.elim
  | cons t ts ih =>
    cases cs with
    | nil => exact h.elim
    | cons c cs =>
      simp only [List.all_cons, Bool.and_eq_true] at hk
      obtain ⟨h1, h2⟩ := ih h.2 hk.2
      exact ⟨by simp [h1], fun d hd => by
        rcases List.mem_cons.1 hd with rfl | hd
        · exact h.1.one hk.1
        · exact h2 d hd⟩
end
end Go.Proofs.YtlijlapkhimaoaaGreatDoor
