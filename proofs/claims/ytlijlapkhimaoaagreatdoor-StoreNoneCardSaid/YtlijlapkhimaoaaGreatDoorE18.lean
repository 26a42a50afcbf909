/- The evaluator, 18: regions that draw their order: what reads is taken first; what is promised of each operation. No program in sight. -/
import Derived.Test.YtlijlapkhimaoaaGreatDoorE17
namespace Go.Proofs.YtlijlapkhimaoaaGreatDoor
open Go Go.RowKit

section
variable {r : Option Nat} {P : Program} {ops : Array Oper} {Q : Exit → Act → World → Prop} {md : Region.Mode} {S : World → Prop} {G : Nat → World → World → Prop}

/-- Whatever order is picked from here on; behind operation i, G i holds of the worlds ahead of it and behind it. -/
def wpAnyG (r : Option Nat) (P : Program) (md : Region.Mode) (ops : Array Oper) (Q : Exit → Act → World → Prop) (G : Nat → World → World → Prop) : Nat → Array Bool → Act → World → Prop
  | 0, listed, a, w => Region.ready md ops listed = [] ∧ Q .normal a w
  | fuel + 1, listed, a, w =>
    (Region.ready md ops listed = [] → Q .normal a w) ∧
    ∀ i ∈ Region.ready md ops listed, wpOpIn (fz r) 0 P ops Q i (fun a' w' => G i w w' ∧ wpAnyG r P md ops Q G fuel (listed.setIfInBounds i true) a' w') a w

theorem wpAny_of_G : ∀ (fuel : Nat) (listed : Array Bool) (a : Act) (w : World), wpAnyG r P md ops Q G fuel listed a w → wpAnyIn (fz r) 0 P md ops Q fuel listed a w
  | 0, _, _, _, h => h
  | fuel + 1, _, _, _, h => ⟨h.1, fun i hi => wpOpIn_mono (fun a' w' h' => wpAny_of_G fuel _ a' w' h'.2) (h.2 i hi)⟩

theorem wpAnyG_done {listed : Array Bool} {a : Act} {w : World} (hr : Region.ready md ops listed = []) (h : Q .normal a w) : ∀ fuel, wpAnyG r P md ops Q G fuel listed a w
  | 0 => ⟨hr, h⟩
  | _ + 1 => ⟨fun _ => h, fun i hi => by rw [hr] at hi; cases hi⟩

theorem wpAnyG_first (m : Nat) {i : Nat} {oi : Oper} {v : Value} (hi : ops[i]? = some oi) (hdf : ∀ (j : Nat) (o : Oper), ops[j]? = some o → ∀ c, o.op ≠ .defer c) (hsel : ∀ (j : Nat) (o : Oper) cs b, ops[j]? = some o → o.op ≠ .select cs b)
    (hQ : ∀ c a w, Q (.panic c) (a.put oi.dst v) w → Q (.panic c) a w) (hG : ∀ w, G i w w) :
    ∀ (fuel : Nat) (listed : Array Bool) (a : Act) (w : World),
      Closed md ops listed → (∀ j oj, ops[j]? = some oj → j ≠ i → listed.getD j true = false → waits md ops m j i = false → oi.apart ops oj = true ∧ ∀ w w', G j w w' → S w → S w') →
      i ∈ Region.ready md ops listed → YieldsIf P ops S oi v a → S w →
      wpAnyG r P md ops Q G fuel (listed.setIfInBounds i true) (a.put oi.dst v) w → wpAnyG r P md ops Q G (fuel + 1) listed a w := by
  intro fuel
  induction fuel with
  | zero =>
    intro listed a w _ _ hr hy hS H
    refine ⟨fun h => (by rw [h] at hr; cases hr), fun j hj => ?_⟩
    by_cases hji : j = i
    · subst hji
      exact yieldsIf_wpOpR (hdf _ _ hi) hi hy hS ⟨hG _, H⟩
    · have := ready_mono hj hji
      rw [H.1] at this
      cases this
  | succ fuel ih =>
    intro listed a w hcl hfree hr hy hS H
    refine ⟨fun h => (by rw [h] at hr; cases hr), fun j hj => ?_⟩
    by_cases hji : j = i
    · subst hji
      exact yieldsIf_wpOpR (hdf _ _ hi) hi hy hS ⟨hG _, H⟩
    · have h1 := H.2 j (ready_mono hj hji)
      obtain ⟨hjun, oj, hoj, hall⟩ := mem_ready.1 hj
      have hnot : waits md ops m j i = false := by
        cases hw : waits md ops m j i with
        | false => rfl
        | true =>
          have h1 := waits_listed hcl m j oj hoj hall hw
          have h0 := (mem_ready.1 hr).1
          rcases Nat.lt_or_ge i listed.size with h' | h'
          · simp [h'] at h0 h1
            rw [h0] at h1
            cases h1
          · simp [Array.getElem?_eq_none h'] at h1
      obtain ⟨hap, hnd⟩ := hfree j oj hoj hji hjun hnot
      have h2 := wpOpR_putIf (hdf _ _ hoj) hoj hap (fun cs b => hsel i oi cs b hi) (fun cs b => hsel j oj cs b hoj) hQ hy h1
      have hfree' : ∀ k ok, ops[k]? = some ok → k ≠ i → (listed.setIfInBounds j true).getD k true = false →
          waits md ops m k i = false → oi.apart ops ok = true ∧ ∀ w w', G k w w' → S w → S w' := fun k ok hk hki hun hno => by
        refine hfree k ok hk hki ?_ hno
        by_cases hjk : j = k
        · subst hjk
          exact hjun
        · rw [getD_set_ne true hjk] at hun
          exact hun
      refine wpOpIn_mono (fun a' w' h3 => ⟨h3.2.1, ih (listed.setIfInBounds j true) a' w' (hcl.set hj) hfree' (ready_mono hr (Ne.symm hji)) h3.1 (hnd _ _ h3.2.1 hS) ?_⟩) h2
      rw [Array.setIfInBounds_comm _ _ hji]
      exact h3.2.2

/-! ### who waits for whom -/
theorem waits_mono {i : Nat} : ∀ {n m : Nat}, n ≤ m → ∀ {j : Nat}, waits md ops n j i = true → waits md ops m j i = true
  | 0, _, _, _, h => by simp [waits] at h
  | n + 1, 0, h, _, _ => by omega
  | n + 1, m + 1, hnm, j, h => by
    unfold waits at h ⊢
    split at h
    · cases h
    · rename_i oj hj
      simp only [Array.any_eq_true', Bool.and_eq_true, Bool.or_eq_true] at h ⊢
      obtain ⟨e, he, hb, h⟩ := h
      exact ⟨e, he, hb, h.imp id fun h => waits_mono (by omega) h⟩
theorem maskA_spec {acc : Array Nat} {i : Nat} : ∀ {es : List Edge}, (maskA acc es).testBit i = true → ∃ e ∈ es, Region.binds .any e = true ∧ (e.on = i ∨ (acc.getD e.on 0).testBit i = true)
  | [], h => by simp [maskA] at h
  | e :: es, h => by
    unfold maskA at h
    rw [Nat.testBit_or, Bool.or_eq_true] at h
    rcases h with h | h
    · split at h
      · rename_i hb
        rw [Nat.testBit_or, Bool.or_eq_true, Nat.testBit_two_pow] at h
        refine ⟨e, List.mem_cons_self .., hb, h.imp (fun h => by simpa using h) id⟩
      · simp at h
    · obtain ⟨e', h1, h2⟩ := maskA_spec h
      exact ⟨e', List.mem_cons_of_mem _ h1, h2⟩
theorem masksA_spec {i : Nat} : ∀ (l : List Oper) (acc : Array Nat), (∀ k, l[k]? = ops[acc.size + k]?) → (∀ j, (acc.getD j 0).testBit i = true → waits .any ops (j + 1) j i = true) → ∀ j, ((masksA l acc).getD j 0).testBit i = true → waits .any ops (j + 1) j i = true
  | [], acc, _, h => h
  | o :: l, acc, hl, h => by
    unfold masksA
    refine masksA_spec l _ (fun k => ?_) fun j hj => ?_
    · rw [Array.size_push, show acc.size + 1 + k = acc.size + (k + 1) by omega, ← hl]
      rfl
    · simp only [Array.getD_eq_getD_getElem?, Array.getElem?_push] at hj
      split at hj
      · rename_i e
        subst e
        simp only [Option.getD_some] at hj
        obtain ⟨e, he, hb, h1⟩ := maskA_spec hj
        have ho : ops[acc.size]? = some o := by have := hl 0; simpa using this.symm
        unfold waits
        rw [ho]
        simp only [Array.any_eq_true', Bool.and_eq_true, Bool.or_eq_true, beq_iff_eq]
        refine ⟨e, by simpa using he, hb, h1.imp id fun h1 => ?_⟩
        have hlt : e.on < acc.size := by
          rcases Nat.lt_or_ge e.on acc.size with h' | h'
          · exact h'
          · simp [Array.getD_eq_getD_getElem?, Array.getElem?_eq_none h'] at h1
        exact waits_mono (by omega) (h e.on h1)
      · exact h j (by simpa using hj)
theorem masks_waits {j i : Nat} (h : ((masksA ops.toList #[]).getD j 0).testBit i = true) : waits .any ops (j + 1) j i = true :=
  masksA_spec ops.toList #[] (fun k => by simp) (fun j h => by simp at h) j h
end

/-! ### anchors -/
/-- an anchor's names are apart, and older than the region -/
structure AnchOk (A : Anch) : Prop where
  inj : ∀ i j o o', A.h.get i = some o → A.h.get j = some o' → A.ν i = A.ν j → i = j
  lt : ∀ i o g, A.h.get i = some o → A.ν i = some g → g < A.w.heap.size

section
variable {P : Program} {w0 w w' : World} {A : Anch} {ν ν' : Nm} {s s' : St}

theorem WRel.anchor (h : WRel P w0 A ν s w) : WRel P w0 ⟨s.h, ν, w⟩ ν { s with log := [] } w :=
  ⟨h.keep, h.top, h.objs, h.inj, Nm.le.refl _, fun i o hi => by
    obtain ⟨g, _, h1, _⟩ := h.objs i o hi
    exact ⟨g, h1⟩, fun i o hi _ => ⟨⟨o, hi⟩, fun g _ => rfl⟩, fun _ _ _ => rfl, Nat.le_refl _, fun i o hi g hg => .inr ⟨i, o, hi, hg⟩, h.ctx⟩
theorem WRel.anchOk (h : WRel P w0 A ν s w) : AnchOk ⟨s.h, ν, w⟩ := ⟨h.inj, fun i o g hi hg => h.lt hi hg⟩
theorem WRel.back (h : WRel P w0 A ν s w) (h' : WRel P w0 ⟨s.h, ν, w⟩ ν' s' w') : WRel P w0 A ν' { s' with log := s'.log ++ s.log } w' := by
  refine ⟨h'.keep, h'.top, h'.objs, h'.inj, h.ext.trans h'.ext, h.anc, fun i o hi hn => ?_, fun g hg hn => ?_, Nat.le_trans h.big h'.big, fun i o hi g hg => ?_, h'.ctx⟩
  · simp only [List.mem_append, not_or] at hn
    obtain ⟨⟨o2, h1⟩, h2⟩ := h.same i o hi hn.2
    obtain ⟨h3, h4⟩ := h'.same i o2 h1 hn.1
    exact ⟨h3, fun g hg => (h4 g (h.ext _ _ hg)).trans (h2 g hg)⟩
  · refine (h'.far g (Nat.lt_of_lt_of_le hg h.big) fun i o hi e => ?_).trans (h.far g hg hn)
    rcases h.own i o hi g e with h1 | ⟨j, o', h1, h2⟩
    · omega
    · exact hn j o' h1 h2
  · rcases h'.own i o hi g hg with h1 | ⟨j, o', h1, h2⟩
    · exact .inl (Nat.le_trans h.big h1)
    · exact h.own j o' h1 g h2
/-- a block that no name stands for is laid -/
theorem WRel.stray (h : WRel P w0 A ν s w) (obj : Obj) : WRel P w0 A ν s (w.alloc obj) := by
  have heapOld : ∀ g, g < w.heap.size → (w.alloc obj).heap[g]? = w.heap[g]? := fun g hg => Below.heap_alloc _ _ _ hg
  refine ⟨h.keep.trans (Keep.alloc _ _ _), h.top, fun j o' hj => ?_, h.inj, h.ext, h.anc, fun j o' hj hn' => ?_, fun g hg hf => ?_, by simp; have := h.big; omega, h.own, h.ctx⟩
  · obtain ⟨g', obj', h1, h2, h3, h4⟩ := h.objs j o' hj
    exact ⟨g', obj', h1, h2, (heapOld g' (h.lt hj h1)).trans h3, h4⟩
  · obtain ⟨⟨o2, h1⟩, h2⟩ := h.same j o' hj hn'
    refine ⟨⟨o2, h1⟩, fun g hg => ?_⟩
    rw [heapOld g (h.lt h1 (h.ext _ _ hg))]
    exact h2 g hg
  · rw [heapOld g (Nat.lt_of_lt_of_le hg h.big)]
    exact h.far g hg hf

/-- what is promised of operation j: if it is quiet, no block turns; of what there was when the region began, it turns what lm says -/
def Gd (P : Program) (ops : Array Oper) (A : Anch) (lm : List (Nat × Nat)) (j : Nat) (w w' : World) : Prop :=
  (∀ oj, ops[j]? = some oj → quietK (kindA P oj.op) = true → w.heap.size ≤ w'.heap.size ∧ ∀ g, g < w.heap.size → w'.heap[g]? = w.heap[g]?) ∧
  ∀ k o g, A.h.get k = some o → A.ν k = some g → inLm lm j k = false → w'.heap[g]? = w.heap[g]?
theorem Gd.refl {ops : Array Oper} {lm : List (Nat × Nat)} {j : Nat} (w : World) : Gd P ops A lm j w w := ⟨fun _ _ _ => ⟨Nat.le_refl _, fun _ _ => rfl⟩, fun _ _ _ _ _ _ => rfl⟩
theorem Gd.alloc {ops : Array Oper} {lm : List (Nat × Nat)} {j : Nat} (hA : AnchOk A) (hb : A.w.heap.size ≤ w.heap.size) (obj : Obj) : Gd P ops A lm j w (w.alloc obj) :=
  ⟨fun _ _ _ => ⟨by simp, fun g hg => Below.heap_alloc _ _ _ hg⟩, fun k o g h1 h2 _ => Below.heap_alloc _ _ _ (Nat.lt_of_lt_of_le (hA.lt k o g h1 h2) hb)⟩
theorem Gd.of_clean {ops : Array Oper} {z : An} {c : Nat} (hA : AnchOk A) (hz : A.h = z.h) (h : WRel P w0 A ν s w) (h' : WRel P w0 ⟨s.h, ν, w⟩ ν' s' w') (hc : cleanA z c s s'.log = true) (hq : ∀ oc, ops[c]? = some oc → quietK (kindA P oc.op) = true → s'.log = []) : Gd P ops A z.lm c w w' := by
  refine ⟨fun oj hj hk => ⟨h'.big, fun g hg => ?_⟩, fun k o g hk hg hl => ?_⟩
  · have hlog := hq oj hj hk
    by_cases hn : ∃ i o, s.h.get i = some o ∧ ν i = some g
    · obtain ⟨i, o, hi, hig⟩ := hn
      exact (h'.same i o hi (by rw [hlog]; simp)).2 g hig
    · exact h'.far g hg fun i o hi e => hn ⟨i, o, hi, e⟩
  have hall := List.all_eq_true.1 hc
  have hlt : g < w.heap.size := Nat.lt_of_lt_of_le (hA.lt k o g hk hg) h.big
  cases hs : s.h.get k with
  | some o2 =>
    refine (h'.same k o2 hs fun hm => ?_).2 g (h.ext _ _ hg)
    have := hall k hm
    rw [← hz, hk] at this
    simp only at this
    rw [hl] at this
    cases this
  | none =>
    have hm : k ∈ s.log := Classical.byContradiction fun hm => by
      obtain ⟨⟨o2, h1⟩, _⟩ := h.same k o hk hm
      rw [hs] at h1
      cases h1
    have hkill : killedA z s = true := List.any_eq_true.2 ⟨k, hm, by rw [← hz, hk, hs]; rfl⟩
    by_cases hn : ∃ i o, s.h.get i = some o ∧ ν i = some g
    · obtain ⟨i, oi, hi, hig⟩ := hn
      by_cases hil : i ∈ s'.log
      · have := hall i hil
        rw [← hz] at this
        split at this
        · rename_i o' hio
          obtain ⟨g', hg'⟩ := h.anc i o' hio
          have e := h.ext _ _ hg'
          rw [hig] at e
          injection e with e
          subst e
          have := hA.inj i k o' o hio hk (hg'.trans hg.symm)
          subst this
          rw [hs] at hi
          cases hi
        · rw [hkill] at this
          cases this
      · exact (h'.same i oi hi hil).2 g hig
    · exact h'.far g hlt fun i o hi e => hn ⟨i, o, hi, e⟩
end

end Go.Proofs.YtlijlapkhimaoaaGreatDoor
