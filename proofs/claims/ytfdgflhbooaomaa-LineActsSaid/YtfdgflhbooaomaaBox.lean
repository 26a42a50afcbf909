/- A struct in a block of the call's own, and what it stands for: 'Bx'. No program. -/
import Derived.Test.YtfdgflhbooaomaaWords
import Derived.Laws.Tables
namespace Go.Proofs.Ytfdgflhbooaomaa
open Go.RowKit

theorem Blk.setRow {w : World} {g : Nat} {t : TypeId} {old cs : Array Value} (h : Blk w g t old) : Blk (w.setRow g cs) g t cs := setRow_heap w g old cs t (0, 0) h
theorem Blk.setRow_far {w : World} {g g' : Nat} {t : TypeId} {old cs : Array Value} (h : Blk w g t old) (hne : g ≠ g') : Blk (w.setRow g' cs) g t old := (setRow_other w g' g cs hne).trans h
theorem below_setRow {B : Nat} {a w : World} (h : Below B a w) {g : Nat} (hg : B ≤ g) (cs : Array Value) : Below B a (w.setRow g cs) :=
  h.trans ⟨rfl, rfl, rfl, by simp, fun k hk => setRow_other w g k cs (by omega)⟩
theorem Holds.setRow_ {D : Nat → Prop} {v w : World} (h : Holds D v w) {g : Nat} (hp : ¬ D g) (cs : Array Value) : Holds D v (w.setRow g cs) := fun q x hq hc => by
  rw [cell_setRow_other w g cs q (fun e => hp (by rw [← e]; exact hq))]
  exact h q x hq hc

/-- block g, of type T, one of the boxes L, holds cells that stand for x; what they lead to lies in no box -/
def Bx {α : Type} (R : Rp α) (T : TypeId) (D : Nat → Prop) (B : Nat) (L : List Nat) (w : World) (g : Nat) (x : α) : Prop :=
  g ∈ L ∧ ∃ ca : Array Value, Blk w g T ca ∧ R.at_ w (dom D B L w) ca.toList x

section
variable {α : Type} {R : Rp α} {T : TypeId} {D : Nat → Prop} {B : Nat} {L L' : List Nat} {w w' : World} {g g' : Nat} {x : α} {ca old : Array Value}
theorem Bx.after (h : Bx R T D B L w g x) (hb : Below w.heap.size w w') : Bx R T D B L w' g x := by
  obtain ⟨hm, ca, k, r⟩ := h
  exact ⟨hm, ca, k.after hb, R.after r hb⟩
theorem Bx.drew (h : Bx R T D B L w g x) : Bx R T D B L w.drew g x := h.after (Below.refl _ _).drew
theorem Bx.grow (h : Bx R T D B L w g x) (hb : Below w.heap.size w w') (hg : g ∈ L') (hL : ∀ k ∈ L', k ∈ L ∨ w.heap.size ≤ k) : Bx R T D B L' w' g x := by
  obtain ⟨hm, ca, k, r⟩ := h
  exact ⟨hg, ca, k.after hb, R.boxed r hb hL⟩
theorem Bx.setRow (h : Bx R T D B L w g x) (hg' : g' ∈ L) (hne : g ≠ g') (cs : Array Value) : Bx R T D B L (w.setRow g' cs) g x := by
  obtain ⟨hm, ca, k, r⟩ := h
  exact ⟨hm, ca, k.setRow_far hne, R.keep (Holds.setRow_ Holds.refl (not_dom_box hg') cs) (fun b h _ => ⟨by simpa using h.1, h.2⟩) r⟩
theorem Bx.new (k : Blk w g T old) (hr : R.at_ w (dom D B L w) ca.toList x) (hg : g ∈ L) : Bx R T D B L (w.setRow g ca) g x :=
  ⟨hg, ca, k.setRow, R.keep (Holds.setRow_ Holds.refl (not_dom_box hg) ca) (fun b h _ => ⟨by simpa using h.1, h.2⟩) hr⟩
theorem Bx.lt (h : Bx R T D B L w g x) : g < w.heap.size := by
  obtain ⟨_, ca, k, _⟩ := h
  exact k.lt
theorem Bx.size (h : Bx R T D B L w g x) : ∃ ca : Array Value, Blk w g T ca ∧ R.at_ w (dom D B L w) ca.toList x ∧ ca.size = R.size ∧ ∀ u ∈ ca.toList, u.oneCell' = true := by
  obtain ⟨_, ca, k, r⟩ := h
  exact ⟨ca, k, r, by simpa using R.len r, R.one r⟩
end

end Go.Proofs.Ytfdgflhbooaomaa
