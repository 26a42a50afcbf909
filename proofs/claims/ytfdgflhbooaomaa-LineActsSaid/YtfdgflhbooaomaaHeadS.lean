/- the state of a head: an operation in its box, lines in theirs -/
import Derived.Test.YtfdgflhbooaomaaLine12
namespace Go.Proofs.Ytfdgflhbooaomaa
open Go.RowKit

abbrev ZL : Array Value := #[.int .u8 0, .int .u32 0, .int .u32 0, .int .u32 0, .int .u32 0, .int .u8 0, .int .u32 0, .slice none 0 0, .slice none 0 0, .int .u8 0]

def Hs (w : World) (aa : Array Value) (L : List Nat) (old : List (Nat × LineM)) (W : World) : Prop :=
  Below w.heap.size w W ∧ Blk W w.heap.size 33 aa ∧ w.heap.size ∈ L ∧ (∀ g ∈ L, g < W.heap.size ∧ w.heap.size ≤ g) ∧ ∀ p ∈ old, p.1 ≠ w.heap.size ∧ Bx LineR 27 (fun _ => False) w.heap.size L W p.1 p.2

section
variable {w W W' : World} {aa ca z : Array Value} {L : List Nat} {old : List (Nat × LineM)} {g : Nat} {M : LineM}
theorem Hs.after (h : Hs w aa L old W) (hb : Below W.heap.size W W') : Hs w aa L old W' :=
  ⟨h.1.trans (hb.mono h.1.size), h.2.1.after hb, h.2.2.1, fun g hg => ⟨Nat.lt_of_lt_of_le (h.2.2.2.1 g hg).1 hb.size, (h.2.2.2.1 g hg).2⟩, fun p hp => ⟨(h.2.2.2.2 p hp).1, (h.2.2.2.2 p hp).2.after hb⟩⟩
theorem Hs.alloc (h : Hs w aa L old W) (o : Obj) : Hs w aa (W.heap.size :: L) old (W.alloc o) := by
  have hb : Below W.heap.size W (W.alloc o) := (Below.refl _ _).alloc (Nat.le_refl _) _
  have h' := h.after hb
  refine ⟨h'.1, h'.2.1, by simp [h.2.2.1], ?_, fun p hp => ⟨(h.2.2.2.2 p hp).1, (h.2.2.2.2 p hp).2.grow hb (by simp [(h.2.2.2.2 p hp).2.1]) (fun k hk => ?_)⟩⟩
  · intro g hg
    rcases List.mem_cons.1 hg with rfl | hg
    · exact ⟨by simp, h.1.size⟩
    · exact h'.2.2.2.1 g hg
  · rcases List.mem_cons.1 hk with rfl | hk
    · exact .inr (Nat.le_refl _)
    · exact .inl hk
theorem Hs.store (h : Hs w aa L old W) (hg : g ∈ L) (hne : g ≠ w.heap.size) (hn : ∀ p ∈ old, p.1 ≠ g) (hk : Blk W g 27 z) (hr : LineR.at_ W (dom (fun _ => False) w.heap.size L W) ca.toList M) : Hs w aa L ((g, M) :: old) (W.setRow g ca) := by
  refine ⟨below_setRow h.1 (h.2.2.2.1 g hg).2 _, h.2.1.setRow_far (Ne.symm hne), h.2.2.1, fun k hk => ⟨by simpa using (h.2.2.2.1 k hk).1, (h.2.2.2.1 k hk).2⟩, fun p hp => ?_⟩
  rcases List.mem_cons.1 hp with rfl | hp
  · exact ⟨hne, Bx.new hk hr hg⟩
  · exact ⟨(h.2.2.2.2 p hp).1, (h.2.2.2.2 p hp).2.setRow hg (hn p hp) _⟩
theorem Hs.get (h : Hs w aa L old W) (hm : (g, M) ∈ old) : ∃ ca : Array Value, Blk W g 27 ca ∧ LineR.at_ W (dom (fun _ => False) w.heap.size L W) ca.toList M ∧ ca.size = 10 := by
  obtain ⟨_, ca, k, r⟩ := (h.2.2.2.2 _ hm).2
  exact ⟨ca, k, r, LineR.len r⟩
theorem Hs.old_lt (h : Hs w aa L old W) : ∀ p ∈ old, p.1 ≠ W.heap.size := fun p hp => by
  have := (h.2.2.2.2 p hp).2.lt
  omega
theorem Hs.ne (h : Hs w aa L old W) : W.heap.size ≠ w.heap.size := by
  have := (h.2.2.2.1 _ h.2.2.1).1
  omega
end

theorem act_eq (D : Nat → Prop) (ca oa : Array Value) (x : LineM) (o : OpM) (M : LineM) (er : Int) (hM : actM x o = (M, er)) (w : World) (hx : LineR.at_ w D ca.toList x) (ho : OpAt oa o) (ha : x.ap.length ≤ 1000) (hb : x.re.length ≤ 1000) (hua : rising x.ap = true) (hub : rising x.re = true) :
    Calls Try.prog 9 #[.agg ca, .agg oa] w fun e w' => ∃ ca' : Array Value, e = .returned (.tuple #[.agg ca', .int .i64 er]) ∧ LineR.at_ w' (dom D w.heap.size [] w') ca'.toList M ∧ ca'.size = 10 ∧ (∀ u ∈ ca'.toList, u.oneCell' = true) ∧ Below w.heap.size w w' := by
  refine (act_arr D ca oa x o w hx ho ha hb hua hub).mono ?_
  rintro e w' ⟨ca', rfl, h1, h2⟩
  rw [hM] at h1 ⊢
  exact ⟨ca', rfl, h1, LineR.len h1, LineR.one h1, h2⟩

theorem add_eq (oa : Array Value) (o : OpM) (M : LineM) (er : Int) (hM : addM o = (M, er)) (w : World) (ho : OpAt oa o) : Calls Try.prog 15 #[.agg oa] w fun e w' => ∃ cs', e = .returned (.tuple #[.agg cs'.toArray, .int .i64 er]) ∧ LineR.at_ w' (fun _ => False) cs' M ∧ Below w.heap.size w w' := by
  have := add_any oa o w ho
  simp only [hM] at this
  exact this
theorem may_eq (D : Nat → Prop) (ca : Array Value) (x : LineM) (vr vn who : Int) (b : Bool) (hM : mayM x vr vn who = b) (w : World) (hx : LineR.at_ w D ca.toList x) (ha : x.ap.length ≤ 1000) (hb : x.re.length ≤ 1000) :
    Calls Try.prog 11 #[.agg ca, .agg #[.int .u8 vr, .int .u32 vn], .int .u32 who] w fun e w' => e = .returned (.bool b) ∧ Below w.heap.size w w' := by
  have := may_any D ca.toList x vr vn who w hx ha hb
  simp only [Array.toArray_toList, hM] at this
  exact this
theorem total_eq (D : Nat → Prop) (ca : Array Value) (x : LineM) (n : Int) (hM : IntKind.u64.wrap (IntKind.u64.wrap x.qty * IntKind.u64.wrap x.price) = n) (w : World) (hx : LineR.at_ w D ca.toList x) :
    Calls Try.prog 13 #[.agg ca] w fun e w' => e = .returned (.int .u64 n) ∧ Below w.heap.size w w' := by
  have := total_any D ca.toList x w hx
  simp only [Array.toArray_toList, hM] at this
  exact this
/-- a whole struct loaded, guarded or not -/
theorem wpList_load_row_g {P : Program} {ops : Array Oper} {rest : List Oper} {o : Oper} {a : Act} {w : World} {Q : Exit → Act → World → Prop} (hw : Region.wanted o (yielded ops a.tmps) = true) (ty : TypeId) (x : Operand) (ho : o.op = .load ty x)
    (g : Nat) (hx : a.eval x = .pointer (some ⟨g, 0, none⟩)) (t : TypeId) (cs : Array Value) (d : TypeDesc) (hg : Blk w g t cs)
    (hu : P.underlying ty = some d) (hd : (match d with | .struct _ | .array _ _ => true | _ => false) = true) (hi : (P.info? ty).map (·.size) = some cs.size)
    (h : wpList P ops Q rest (a.put o.dst (.agg cs)) w) : wpList P ops Q (o :: rest) a w :=
  wpList_step fun K hK => by
    rw [if_pos hw]
    exact wp_load_row ty x ho g hx t cs (0, 0) d hg hu hd hi (hK _ _ h)

/-- what 'y, e := line.Act(..)' leaves: a new box, and the error -/
def Got (w : World) (aa : Array Value) (old : List (Nat × LineM)) (M : LineM) (er : Int) (s t : Value) (wx : World) : Prop :=
  ∃ g L, s = .pointer (some ⟨g, 0, none⟩) ∧ t = .int .i64 er ∧ Hs w aa L ((g, M) :: old) wx

end Go.Proofs.Ytfdgflhbooaomaa
