/- The symbolic machine, 5: loops, single operations, exits. No program in sight. -/
import Derived.Test.YtfdgflhbooaomaaSx4
namespace Go.Proofs.Ytfdgflhbooaomaa
open Go.RowKit

section
variable {P : Program} {c : Code} {Q : Exit → Act → World → Prop} {D : Nat → Prop} {w0 w : World} {L0 : List Nat} {H : List Bk} {F : Fc} {N : Nat} {T : List (Nat × Value)} {a : Act} {k : List It}

/-- a Bool that has been decided -/
theorem Knows.rebool (h : Knows N T a) (i : Nat) {b : Bool} (b' : Bool) (hi : look T i = some (.bool b)) (e : b = b') : Knows N (putT T (some i) (.bool b')) a :=
  ⟨h.size, h.defers, fun j v hv => by
    simp only [putT, look] at hv
    cases hb : Nat.beq i j with
    | true =>
      rw [hb] at hv
      have e1 := Nat.eq_of_beq_eq_true hb
      injection hv with hv
      subst hv e1 e
      exact h.slots _ _ hi
    | false =>
      rw [hb] at hv
      simp only [look_drops] at hv
      split at hv
      · cases hv
      · exact h.slots j v hv⟩
/-- a slot's value, told otherwise -/
theorem Knows.re (h : Knows N T a) (i : Nat) {u : Value} (v : Value) (hi : look T i = some u) (e : u = v) : Knows N (putT T (some i) v) a :=
  ⟨h.size, h.defers, fun j v' hv => by
    simp only [putT, look] at hv
    cases hb : Nat.beq i j with
    | true =>
      rw [hb] at hv
      have e1 := Nat.eq_of_beq_eq_true hb
      injection hv with hv
      subst hv e1 e
      exact h.slots _ _ hi
    | false =>
      rw [hb] at hv
      simp only [look_drops] at hv
      split at hv
      · cases hv
      · exact h.slots j v' hv⟩

/-- one operation that only reads, by its run -/
theorem op_ {p : List Nat} {i : Nat} {o : Oper} {v : Value} (hT : Knows N T a) (ho : (opsAt c p)[i]? = some o) (hw : wantedT (opsAt c p).toArray T o = some true) (hk : (knowsAll T o.op && okDst N o.dst && !isSel o.op) = true)
    (hrun : (execOp (rho T) o).run P w = .ok (.value v) w) (h : ∀ a', Knows N (putT T o.dst v) a' → At P c Q (⟨1, p, i + 1⟩ :: k) a' w) : At P c Q (⟨1, p, i⟩ :: k) a w := by
  show wpList P (opsAt c p).toArray (itPost P c Q k) ((opsAt c p).drop i) a w
  obtain ⟨hlt, rfl⟩ := List.getElem?_eq_some_iff.1 ho
  rw [List.drop_eq_getElem_cons hlt]
  refine wpList_step fun K hK => ?_
  rw [hT.wanted hw]
  simp only [if_true]
  simp only [Bool.and_eq_true, Bool.not_eq_true'] at hk
  obtain ⟨⟨hk, hd⟩, hs⟩ := hk
  unfold Oper.wp
  rw [execOp_congr _ (fun cs b e => by rw [e] at hs; simp [isSel] at hs) (hT.evals hk), hrun]
  exact hK _ _ (h _ (hT.put hd v))

/-- one operation that leaves another world, by its run -/
theorem opw_ {p : List Nat} {i : Nat} {o : Oper} {v : Value} {w' : World} (hT : Knows N T a) (ho : (opsAt c p)[i]? = some o) (hw : wantedT (opsAt c p).toArray T o = some true) (hk : (knowsAll T o.op && okDst N o.dst && !isSel o.op) = true)
    (hrun : (execOp (rho T) o).run P w = .ok (.value v) w') (h : ∀ a', Knows N (putT T o.dst v) a' → At P c Q (⟨1, p, i + 1⟩ :: k) a' w') : At P c Q (⟨1, p, i⟩ :: k) a w := by
  show wpList P (opsAt c p).toArray (itPost P c Q k) ((opsAt c p).drop i) a w
  obtain ⟨hlt, rfl⟩ := List.getElem?_eq_some_iff.1 ho
  rw [List.drop_eq_getElem_cons hlt]
  refine wpList_step fun K hK => ?_
  rw [hT.wanted hw]
  simp only [if_true]
  simp only [Bool.and_eq_true, Bool.not_eq_true'] at hk
  obtain ⟨⟨hk, hd⟩, hs⟩ := hk
  unfold Oper.wp
  rw [execOp_congr _ (fun cs b e => by rw [e] at hs; simp [isSel] at hs) (hT.evals hk), hrun]
  exact hK _ _ (h _ (hT.put hd v))

/-- what a loop's round must come to -/
def loopPost {ι : Type} (P : Program) (c : Code) (Q : Exit → Act → World → Prop) (k : List It) (I : ι → Act → World → Prop) (μ : ι → Nat) (x : ι) : Exit → Act → World → Prop
  | .normal, a, w => ∃ y, I y a w ∧ μ y < μ x
  | e, a, w => itPost P c Q k e a w

theorem least {p : Nat → Prop} : ∀ n, p n → ∃ m, p m ∧ ∀ j, p j → m ≤ j := fun n => by
  induction n using Nat.strongRecOn with
  | _ n ih =>
    intro hn
    by_cases h : ∃ j, j < n ∧ p j
    · obtain ⟨j, hj, hp⟩ := h
      exact ih j hj hp
    · exact ⟨n, hn, fun j hj => by
        rcases Nat.lt_or_ge j n with h1 | h1
        · exact absurd ⟨j, h1, hj⟩ h
        · exact h1⟩
noncomputable def leastOf (p : Nat → Prop) : Nat := open Classical in if h : ∃ m, p m ∧ ∀ j, p j → m ≤ j then h.choose else 0
theorem leastOf_spec {p : Nat → Prop} {n : Nat} (h : p n) : p (leastOf p) ∧ ∀ j, p j → leastOf p ≤ j := by
  have h1 := least n h
  unfold leastOf
  rw [dif_pos h1]
  exact h1.choose_spec

theorem loop_ {ι : Type} (I : ι → Act → World → Prop) (μ : ι → Nat) {p : List Nat} {i : Nat} {b : Code} (hc : codeAt c p = .loop b) (x : ι) (h0 : I x a w)
    (h : ∀ x a w, I x a w → At P c (loopPost P c Q k I μ x) [⟨0, p ++ [0], 0⟩] a w) : At P c Q (⟨0, p, i⟩ :: k) a w := by
  show (codeAt c p).wp P _ a w
  rw [hc]
  refine wp_loop (fun a w => ∃ x, I x a w) (fun a w => leastOf fun n => ∃ x, I x a w ∧ μ x = n) ⟨x, h0⟩ ?_
  rintro a w ⟨x, hx⟩
  obtain ⟨⟨y, hy, hm⟩, _⟩ := leastOf_spec (p := fun n => ∃ x, I x a w ∧ μ x = n) ⟨x, hx, rfl⟩
  have h1 := h y a w hy
  change (codeAt c (p ++ [0])).wp P (loopPost P c Q k I μ y) a w at h1
  rw [codeAt_append, hc] at h1
  refine wp_mono h1 fun e a1 w1 hq => ?_
  cases e with
  | normal =>
    obtain ⟨z, hz, hlt⟩ := hq
    refine ⟨⟨z, hz⟩, ?_⟩
    have := (leastOf_spec (p := fun n => ∃ x, I x a1 w1 ∧ μ x = n) ⟨z, hz, rfl⟩).2 _ ⟨z, hz, rfl⟩
    omega
  | _ => exact hq

/-- the round is over -/
theorem round_ {ι : Type} {I : ι → Act → World → Prop} {μ : ι → Nat} {x : ι} (y : ι) (h : I y a w) (hm : μ y < μ x) : At P c (loopPost P c Q k I μ x) [] a w := ⟨y, h, hm⟩

theorem itPost_exit {id : Nat} (hk : (k.all fun it => Nat.blt it.tag 2 || (Nat.beq it.tag 2 && !Nat.beq it.i id)) = true) (h : Q (.exit id) a w) : itPost P c Q k (.exit id) a w := by
  induction k with
  | nil => exact h
  | cons it k ih =>
    obtain ⟨tag, p, i⟩ := it
    simp only [List.all_cons, Bool.and_eq_true] at hk
    match tag, hk.1 with
    | 0, _ => exact ih hk.2
    | 1, _ => exact ih hk.2
    | 2, h2 =>
      show Exit.inBlock i (itPost P c Q k) (.exit id) a w
      have hne : ¬ id = i := fun e => by subst e; simp at h2
      simp only [Exit.inBlock, if_neg hne]
      exact ih hk.2
    | n + 3, h3 => exact absurd h3 (by simp)

/-- an exit out of the loop -/
theorem exit_ {ι : Type} {I : ι → Act → World → Prop} {μ : ι → Nat} {x : ι} {p : List Nat} {i id : Nat} {k' k'' : List It} (hc : codeAt c p = .exit id) (hk : (k'.all fun it => Nat.blt it.tag 2 || (Nat.beq it.tag 2 && !Nat.beq it.i id)) = true) (hp : popTo id k = some k'')
    (h : At P c Q k'' a w) : At P c (loopPost P c Q k I μ x) (⟨0, p, i⟩ :: k') a w := by
  show (codeAt c p).wp P _ a w
  rw [hc]
  exact wp_exit (itPost_exit hk (show itPost P c Q k (.exit id) a w from popTo_sound hp h))

/-- a return, from wherever -/
theorem retAt_ {p : List Nat} {i : Nat} (hc : codeAt c p = .ret) (hk : (k.all fun it => Nat.blt it.tag 3) = true) (h : Q .ret a w) : At P c Q (⟨0, p, i⟩ :: k) a w := by
  show (codeAt c p).wp P _ a w
  rw [hc]
  exact wp_ret (itPost_ret hk h)
theorem loopRet_ {ι : Type} {I : ι → Act → World → Prop} {μ : ι → Nat} {x : ι} (hk : (k.all fun it => Nat.blt it.tag 3) = true) (h : Q .ret a w) : loopPost P c Q k I μ x .ret a w := itPost_ret hk h
theorem bodyRet_ {fn : Func} {R : Ending → World → Prop} (hs : List Nat) {rs : List ResultVar} {vs l : List Value} (hI : Inv D w0 L0 H F w) (hT : Knows N T a) (hrs : fn.results = rs.toArray)
    (h : resT P T H rs hs = some (vs, l, l)) (hR : R (.returned (oneOrTuple vs)) w) : bodyPost P fn R .ret a w := ⟨hT.defers, _, results_run hI hT hrs h, hR⟩
end

/-! ### worlds behind calls -/
section
variable {D : Nat → Prop} {w0 w w' : World} {L0 : List Nat} {H : List Bk} {F : Fc}
/-- where the data of a call of this state lie -/
def dm (D : Nat → Prop) (w0 : World) (H : List Bk) (w : World) : Nat → Prop := dom D w0.heap.size (gs H) w
theorem Inv.after (h : Inv D w0 L0 H F w) (hk : Keep [] w w') : Inv D w0 L0 H F w' := by
  have hb := hk.below
  exact h.next (Keep.of_below hb) (fun b hm => (h.has b hm).after hb) h.nodup (fun g hg => .inl hg)
theorem Inv.got (h : Inv D w0 L0 H F w) (hk : Keep [] w w') {α : Type} {R : Rp α} {cs : List Value} {x : α} (hr : R.at_ w' (dom (dm D w0 H w) w.heap.size [] w') cs x) : R.at_ w' (dm D w0 H w') cs x :=
  R.called hr h.lt h.keep.size
end

theorem len0 {α : Type} {l : List α} (h : l.length = 0) : l = [] := List.eq_nil_of_length_eq_zero h
theorem len1 {α : Type} {l : List α} (h : l.length = 1) : ∃ a, l = [a] := by
  match l, h with
  | [a], _ => exact ⟨a, rfl⟩
theorem len2 {α : Type} {l : List α} (h : l.length = 2) : ∃ a b, l = [a, b] := by
  match l, h with
  | [a, b], _ => exact ⟨a, b, rfl⟩
theorem len3 {α : Type} {l : List α} (h : l.length = 3) : ∃ a b c, l = [a, b, c] := by
  match l, h with
  | [a, b, c], _ => exact ⟨a, b, c, rfl⟩
theorem len4 {α : Type} {l : List α} (h : l.length = 4) : ∃ a b c d, l = [a, b, c, d] := by
  match l, h with
  | [a, b, c, d], _ => exact ⟨a, b, c, d, rfl⟩
theorem len5 {α : Type} {l : List α} (h : l.length = 5) : ∃ a b c d e, l = [a, b, c, d, e] := by
  match l, h with
  | [a, b, c, d, e], _ => exact ⟨a, b, c, d, e, rfl⟩
theorem len6 {α : Type} {l : List α} (h : l.length = 6) : ∃ a b c d e f, l = [a, b, c, d, e, f] := by
  match l, h with
  | [a, b, c, d, e, f], _ => exact ⟨a, b, c, d, e, f, rfl⟩

end Go.Proofs.Ytfdgflhbooaomaa
