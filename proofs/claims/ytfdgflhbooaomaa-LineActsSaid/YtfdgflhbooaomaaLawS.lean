/- the state of a law: lines and operations in boxes of the call's own; plain facts on what an act does -/
import Derived.Test.YtfdgflhbooaomaaHead
namespace Go.Proofs.Ytfdgflhbooaomaa
open Go.RowKit

def Ls (D : Nat → Prop) (w : World) (L : List Nat) (lines : List (Nat × LineM)) (ops : List (Nat × Array Value)) (W : World) : Prop :=
  Below w.heap.size w W ∧ (∀ g ∈ L, g < W.heap.size ∧ w.heap.size ≤ g) ∧ (∀ p ∈ lines, Bx LineR 27 D w.heap.size L W p.1 p.2) ∧ ∀ p ∈ ops, p.1 ∈ L ∧ Blk W p.1 33 p.2

section
variable {D : Nat → Prop} {w W W' : World} {ca oa : Array Value} {L : List Nat} {lines : List (Nat × LineM)} {ops : List (Nat × Array Value)} {g : Nat} {M : LineM}
theorem Ls.start : Ls D w [] [] [] w := ⟨Below.refl _ _, by simp, by simp, by simp⟩
theorem Ls.after (h : Ls D w L lines ops W) (hb : Below W.heap.size W W') : Ls D w L lines ops W' :=
  ⟨h.1.trans (hb.mono h.1.size), fun g hg => ⟨Nat.lt_of_lt_of_le (h.2.1 g hg).1 hb.size, (h.2.1 g hg).2⟩, fun p hp => (h.2.2.1 p hp).after hb, fun p hp => ⟨(h.2.2.2 p hp).1, (h.2.2.2 p hp).2.after hb⟩⟩
theorem Ls.alloc (h : Ls D w L lines ops W) (o : Obj) : Ls D w (W.heap.size :: L) lines ops (W.alloc o) := by
  have hb : Below W.heap.size W (W.alloc o) := (Below.refl _ _).alloc (Nat.le_refl _) _
  have h' := h.after hb
  refine ⟨h'.1, ?_, fun p hp => (h.2.2.1 p hp).grow hb (by simp [(h.2.2.1 p hp).1]) (fun k hk => ?_), fun p hp => ⟨by simp [(h.2.2.2 p hp).1], (h'.2.2.2 p hp).2⟩⟩
  · intro g hg
    rcases List.mem_cons.1 hg with rfl | hg
    · exact ⟨by simp, h.1.size⟩
    · exact h'.2.1 g hg
  · rcases List.mem_cons.1 hk with rfl | hk
    · exact .inr (Nat.le_refl _)
    · exact .inl hk
theorem LineR.box (hr : LineR.at_ W (dom D w.heap.size L W) ca.toList M) (o : Obj) : LineR.at_ (W.alloc o) (dom D w.heap.size (W.heap.size :: L) (W.alloc o)) ca.toList M :=
  LineR.boxed hr ((Below.refl W.heap.size W).alloc (Nat.le_refl _) o) (fun k hk => by
    rcases List.mem_cons.1 hk with rfl | hk
    · exact .inr (Nat.le_refl _)
    · exact .inl hk)
theorem Ls.boxLine (h : Ls D w L lines ops W) (hr : LineR.at_ W (dom D w.heap.size L W) ca.toList M) (hg : g = W.heap.size) : Ls D w (g :: L) ((g, M) :: lines) ops (W.alloc (.cells ca 27)) := by
  subst hg
  have h' := h.alloc (.cells ca 27)
  refine ⟨h'.1, h'.2.1, fun p hp => ?_, h'.2.2.2⟩
  rcases List.mem_cons.1 hp with rfl | hp
  · exact ⟨by simp, ca, Blk.new _ _ _, LineR.box hr _⟩
  · exact h'.2.2.1 p hp
theorem Ls.boxOp (h : Ls D w L lines ops W) (oa : Array Value) (hg : g = W.heap.size) : Ls D w (g :: L) lines ((g, oa) :: ops) (W.alloc (.cells oa 33)) := by
  subst hg
  have h' := h.alloc (.cells oa 33)
  refine ⟨h'.1, h'.2.1, h'.2.2.1, fun p hp => ?_⟩
  rcases List.mem_cons.1 hp with rfl | hp
  · exact ⟨by simp, Blk.new _ _ _⟩
  · exact h'.2.2.2 p hp
/-- a line that a call gave, stored into a new box -/
theorem Ls.newline (h : Ls D w L lines ops W) (hr : LineR.at_ W (dom D w.heap.size L W) ca.toList M) : Ls D w (W.heap.size :: L) ((W.heap.size, M) :: lines) ops ((W.alloc (.cells ZL 27)).setRow W.heap.size ca) := by
  have h' := h.alloc (.cells ZL 27)
  refine ⟨below_setRow h'.1 h.1.size _, fun k hk => ⟨by simpa using (h'.2.1 k hk).1, (h'.2.1 k hk).2⟩, fun p hp => ?_, fun p hp => ⟨(h'.2.2.2 p hp).1, (h'.2.2.2 p hp).2.setRow_far (by have := (h.2.2.2 p hp).2.lt; omega)⟩⟩
  rcases List.mem_cons.1 hp with rfl | hp
  · exact Bx.new (Blk.new _ _ _) (LineR.box hr _) (by simp)
  · exact (h'.2.2.1 p hp).setRow (by simp) (by have := (h.2.2.1 p hp).lt; omega) _
theorem Ls.line (h : Ls D w L lines ops W) (hm : (g, M) ∈ lines) : ∃ ca : Array Value, Blk W g 27 ca ∧ LineR.at_ W (dom D w.heap.size L W) ca.toList M ∧ ca.size = 10 := by
  obtain ⟨_, ca, k, r⟩ := h.2.2.1 _ hm
  exact ⟨ca, k, r, LineR.len r⟩
theorem Ls.op (h : Ls D w L lines ops W) (hm : (g, oa) ∈ ops) : Blk W g 33 oa := (h.2.2.2 _ hm).2
theorem Ls.called (h : Ls D w L lines ops W) {w1 : World} (hr : LineR.at_ w1 (dom (dom D w.heap.size L W) W.heap.size [] w1) ca.toList M) : LineR.at_ w1 (dom D w.heap.size L w1) ca.toList M :=
  LineR.called hr (fun g hg => (h.2.1 g hg).1) h.1.size
theorem Ls.drew (h : Ls D w L lines ops W) : Ls D w L lines ops W.drew := h.after (Below.refl _ _).drew
end

theorem great_arr (D : Nat → Prop) (ca : Array Value) (a : LineM) (w : World) (ha : LineR.at_ w D ca.toList a) (h1 : a.ap.length ≤ 9223372036854775807) (h2 : a.re.length ≤ 9223372036854775807) :
    Calls Try.prog 7 #[.agg ca] w fun e w' => e = .returned (.bool (greatM a)) ∧ Below w.heap.size w w' := by
  have := great_any D ca.toList a w ha h1 h2
  simpa only [Array.toArray_toList] using this
theorem refSame_arr (D E : Nat → Prop) (ca cb : Array Value) (a b : LineM) (w : World) (ha : LineR.at_ w D ca.toList a) (hb : LineR.at_ w E cb.toList b) (h1 : a.ap.length ≤ 1000) (h2 : a.re.length ≤ 1000) (h3 : b.ap.length ≤ 1000) (h4 : b.re.length ≤ 1000) :
    Calls Try.prog 10 #[.agg ca, .agg cb] w fun e w' => e = .returned (.bool (sameM a b)) ∧ Below w.heap.size w w' := by
  have := refSame_any D E ca.toList cb.toList a b w ha hb h1 h2 h3 h4
  simpa only [Array.toArray_toList] using this
theorem same_eq (D E : Nat → Prop) (ca cb : Array Value) (a b : LineM) (r : Bool) (hM : sameM a b = r) (w : World) (ha : LineR.at_ w D ca.toList a) (hb : LineR.at_ w E cb.toList b) (h1 : a.ap.length ≤ 1000) (h2 : a.re.length ≤ 1000) (h3 : b.ap.length ≤ 1000) (h4 : b.re.length ≤ 1000) :
    Calls Try.prog 10 #[.agg ca, .agg cb] w fun e w' => e = .returned (.bool r) ∧ Below w.heap.size w w' := by
  have := refSame_arr D E ca cb a b w ha hb h1 h2 h3 h4
  rw [hM] at this
  exact this
theorem act_arr1 (D : Nat → Prop) (ca oa : Array Value) (x : LineM) (o : OpM) (w : World) (hx : LineR.at_ w D ca.toList x) (ho : OpAt oa o) (ha : x.ap.length ≤ 1000) (hb : x.re.length ≤ 1000) (hua : rising x.ap = true) (hub : rising x.re = true) :
    Calls Try.prog 9 #[.agg ca, .agg oa] w fun e w' => ∃ ca' : Array Value, e = .returned (.tuple #[.agg ca', .int .i64 (actM x o).2]) ∧ LineR.at_ w' (dom D w.heap.size [] w') ca'.toList (actM x o).1 ∧ ca'.size = 10 ∧ (∀ u ∈ ca'.toList, u.oneCell' = true) ∧ Below w.heap.size w w' := by
  refine (act_arr D ca oa x o w hx ho ha hb hua hub).mono ?_
  rintro e w' ⟨ca', rfl, h1, h2⟩
  exact ⟨ca', rfl, h1, LineR.len h1, LineR.one h1, h2⟩

/-! ### Plain facts -/
theorem sameM_refl (a : LineM) : sameM a a = true := by simp [sameM]
theorem great_no {x : LineM} (h : greatM x = false) : x.ap.length ≤ 60 ∧ x.re.length ≤ 60 ∧ rising x.ap = true ∧ rising x.re = true := by
  simp [greatM, fitsM] at h
  exact ⟨h.1.1, h.1.2, h.2.1, h.2.2⟩

end Go.Proofs.Ytfdgflhbooaomaa
