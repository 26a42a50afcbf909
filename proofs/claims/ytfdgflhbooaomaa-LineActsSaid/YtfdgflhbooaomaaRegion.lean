/- A region that draws its order, walked in ONE order: what only reads is taken first, under 'S' (a condition on worlds that need not outlive the region's stores). Plain theorems, no program. -/
import Derived.OrdersHeld
import Derived.RegionTactic
namespace Go.Proofs.Ytfdgflhbooaomaa

section
variable {P : Program} {ops : Array Oper} {Q : Exit → Act → World → Prop} {md : Region.Mode} {S : World → Prop} {nd : Nat → Bool}

/-- number j waits for number i, straight or through others -/
def waits (md : Region.Mode) (ops : Array Oper) : Nat → Nat → Nat → Bool
  | 0, _, _ => false
  | n + 1, j, i => match ops[j]? with
    | none => false
    | some oj => oj.after.any fun e => Region.binds md e && (e.on == i || waits md ops n e.on i)

/-- whoever is listed, all that it waits for is -/
def Closed (md : Region.Mode) (ops : Array Oper) (listed : Array Bool) : Prop := ∀ j oj, ops[j]? = some oj → listed.getD j false = true → ∀ e ∈ oj.after, Region.binds md e = true → listed.getD e.on false = true

theorem waits_listed {listed : Array Bool} (hc : Closed md ops listed) {i : Nat} : ∀ (n j : Nat) (oj : Oper), ops[j]? = some oj → (∀ e ∈ oj.after, Region.binds md e = true → listed.getD e.on false = true) → waits md ops n j i = true → listed.getD i false = true
  | 0, _, _, _, _, h => by simp [waits] at h
  | n + 1, j, oj, hj, he, h => by
    simp only [waits, hj, Array.any_eq_true', Bool.and_eq_true, Bool.or_eq_true, beq_iff_eq] at h
    obtain ⟨e, hm, hb, h | h⟩ := h
    · rw [← h]
      exact he e hm hb
    · have hl := he e hm hb
      cases hk : ops[e.on]? with
      | none =>
        cases n with
        | zero => simp [waits] at h
        | succ n => simp [waits, hk] at h
      | some ok => exact waits_listed hc n e.on ok hk (hc e.on ok hk hl) h

theorem Closed.set {listed : Array Bool} (hc : Closed md ops listed) {i : Nat} (hr : i ∈ Region.ready md ops listed) : Closed md ops (listed.setIfInBounds i true) := by
  intro j oj hj hl e he hb
  apply getD_set_true
  by_cases hji : j = i
  · subst hji
    obtain ⟨_, oi, hoi, hall⟩ := mem_ready.1 hr
    rw [hoi] at hj
    injection hj with hj
    subst hj
    exact hall e he hb
  · rw [getD_set_ne false (Ne.symm hji)] at hl
    exact hc j oj hj hl e he hb

/-- Whatever order is picked from here on; behind each operation that 'nd' names S is shown. -/
def wpAnyN (P : Program) (md : Region.Mode) (ops : Array Oper) (Q : Exit → Act → World → Prop) (S : World → Prop) (nd : Nat → Bool) : Nat → Array Bool → Act → World → Prop
  | 0, listed, a, w => Region.ready md ops listed = [] ∧ Q .normal a w
  | fuel + 1, listed, a, w =>
    (Region.ready md ops listed = [] → Q .normal a w) ∧
    ∀ i ∈ Region.ready md ops listed, wpOp P ops Q i (fun a' w' => (nd i = true → S w → S w') ∧ wpAnyN P md ops Q S nd fuel (listed.setIfInBounds i true) a' w') a w

theorem wpAny_of_need : ∀ (fuel : Nat) (listed : Array Bool) (a : Act) (w : World), wpAnyN P md ops Q S nd fuel listed a w → wpAny P md ops Q fuel listed a w
  | 0, _, _, _, h => h
  | fuel + 1, _, _, _, h => ⟨h.1, fun i hi => wpOp_mono (fun a' w' h' => wpAny_of_need fuel _ a' w' h'.2) (h.2 i hi)⟩

theorem wpAnyN_first (m : Nat) {i : Nat} {oi : Oper} {v : Value} (hi : ops[i]? = some oi) (hsel : ∀ (j : Nat) (o : Oper) cs b, ops[j]? = some o → o.op ≠ .select cs b)
    (hQ : ∀ c a w, Q (.panic c) (a.put oi.dst v) w → Q (.panic c) a w) :
    ∀ (fuel : Nat) (listed : Array Bool) (a : Act) (w : World),
      Closed md ops listed → (∀ j oj, ops[j]? = some oj → j ≠ i → listed.getD j true = false → waits md ops m j i = false → oi.apart ops oj = true ∧ nd j = true) →
      i ∈ Region.ready md ops listed → YieldsIf P ops S oi v a → S w →
      wpAnyN P md ops Q S nd fuel (listed.setIfInBounds i true) (a.put oi.dst v) w → wpAnyN P md ops Q S nd (fuel + 1) listed a w := by
  intro fuel
  induction fuel with
  | zero =>
    intro listed a w _ _ hr hy hS H
    refine ⟨fun h => (by rw [h] at hr; cases hr), fun j hj => ?_⟩
    by_cases hji : j = i
    · subst hji
      exact hy.wpOp hi hS ⟨fun _ h => h, H⟩
    · have := ready_mono hj hji
      rw [H.1] at this
      cases this
  | succ fuel ih =>
    intro listed a w hcl hfree hr hy hS H
    refine ⟨fun h => (by rw [h] at hr; cases hr), fun j hj => ?_⟩
    by_cases hji : j = i
    · subst hji
      exact hy.wpOp hi hS ⟨fun _ h => h, H⟩
    · have h1 := H.2 j (ready_mono hj hji)
      obtain ⟨hjun, oj, hoj, hall⟩ := mem_ready.1 hj
      have hnot : waits md ops m j i = false := by
        cases hw : waits md ops m j i with
        | false => rfl
        | true =>
          have h1 := waits_listed hcl m j oj hoj hall hw
          have h0 := (mem_ready.1 hr).1
          rcases Nat.lt_or_ge i listed.size with h' | h'
          · simp [h'] at h0 h1
            rw [h0] at h1
            cases h1
          · simp [Array.getElem?_eq_none h'] at h1
      obtain ⟨hap, hnd⟩ := hfree j oj hoj hji hjun hnot
      have h2 := wpOp_putIf hoj hap (fun cs b => hsel i oi cs b hi) (fun cs b => hsel j oj cs b hoj) hQ hy h1
      have hfree' : ∀ k ok, ops[k]? = some ok → k ≠ i → (listed.setIfInBounds j true).getD k true = false →
          waits md ops m k i = false → oi.apart ops ok = true ∧ nd k = true := fun k ok hk hki hun hno => by
        refine hfree k ok hk hki ?_ hno
        by_cases hjk : j = k
        · subst hjk
          exact hjun
        · rw [getD_set_ne true hjk] at hun
          exact hun
      refine wpOp_mono (fun a' w' h3 => ⟨h3.2.1, ih (listed.setIfInBounds j true) a' w' (hcl.set hj) hfree' (ready_mono hr (Ne.symm hji)) h3.1 (h3.2.1 hnd hS) ?_⟩) h2
      rw [Array.setIfInBounds_comm _ _ hji]
      exact h3.2.2

/-- what yields in whatever world -/
theorem wpAnyN_pure {i : Nat} {oi : Oper} {v : Value} (hi : ops[i]? = some oi) (hsel : ∀ (j : Nat) (o : Oper) cs b, ops[j]? = some o → o.op ≠ .select cs b)
    (hQ : ∀ c a w, Q (.panic c) (a.put oi.dst v) w → Q (.panic c) a w) :
    ∀ (fuel : Nat) (listed : Array Bool) (a : Act) (w : World),
      (∀ j oj, ops[j]? = some oj → j ≠ i → listed.getD j true = false → (∀ e ∈ oj.after, Region.binds md e = true → e.on ≠ i) → oi.apart ops oj = true) →
      i ∈ Region.ready md ops listed → Yields P ops oi v a →
      wpAnyN P md ops Q S nd fuel (listed.setIfInBounds i true) (a.put oi.dst v) w → wpAnyN P md ops Q S nd (fuel + 1) listed a w := by
  intro fuel
  induction fuel with
  | zero =>
    intro listed a w _ hr hy H
    refine ⟨fun h => (by rw [h] at hr; cases hr), fun j hj => ?_⟩
    by_cases hji : j = i
    · subst hji
      exact hy.wpOp hi ⟨fun _ h => h, H⟩
    · have := ready_mono hj hji
      rw [H.1] at this
      cases this
  | succ fuel ih =>
    intro listed a w hfree hr hy H
    refine ⟨fun h => (by rw [h] at hr; cases hr), fun j hj => ?_⟩
    by_cases hji : j = i
    · subst hji
      exact hy.wpOp hi ⟨fun _ h => h, H⟩
    · have h1 := H.2 j (ready_mono hj hji)
      obtain ⟨hjun, oj, hoj, hall⟩ := mem_ready.1 hj
      have hnot : ∀ e ∈ oj.after, Region.binds md e = true → e.on ≠ i := fun e he hb heq => by
        have h1 := hall e he hb
        have h0 := (mem_ready.1 hr).1
        rw [heq] at h1
        rcases Nat.lt_or_ge i listed.size with h' | h'
        · simp [h'] at h0 h1
          rw [h0] at h1
          cases h1
        · simp [Array.getElem?_eq_none h'] at h1
      have hap := hfree j oj hoj hji hjun hnot
      have h2 := wpOp_put hoj hap (fun cs b => hsel i oi cs b hi) (fun cs b => hsel j oj cs b hoj) hQ hy h1
      have hfree' : ∀ k ok, ops[k]? = some ok → k ≠ i → (listed.setIfInBounds j true).getD k true = false →
          (∀ e ∈ ok.after, Region.binds md e = true → e.on ≠ i) → oi.apart ops ok = true := fun k ok hk hki hun hno => by
        refine hfree k ok hk hki ?_ hno
        by_cases hjk : j = k
        · subst hjk
          exact hjun
        · rw [getD_set_ne true hjk] at hun
          exact hun
      refine wpOp_mono (fun a' w' h3 => ⟨h3.2.1, ih (listed.setIfInBounds j true) a' w' hfree' (ready_mono hr (Ne.symm hji)) h3.1 ?_⟩) h2
      rw [Array.setIfInBounds_comm _ _ hji]
      exact h3.2.2

/-- who could come ahead of number i is apart from it, and keeps S -/
def freeN (nd : Nat → Bool) (md : Region.Mode) (ops : Array Oper) (listed : Array Bool) (i : Nat) : Bool :=
  match ops[i]? with
  | none => false
  | some oi => (List.range ops.size).all fun j =>
    match ops[j]? with
    | none => true
    | some oj => j == i || listed.getD j true || waits md ops ops.size j i || (oi.apart ops oj && nd j)

theorem freeN_spec {i : Nat} {oi : Oper} {listed : Array Bool} (hi : ops[i]? = some oi) (h : freeN nd md ops listed i = true) (j : Nat) (oj : Oper) (hj : ops[j]? = some oj) (hji : j ≠ i) (hun : listed.getD j true = false)
    (hno : waits md ops ops.size j i = false) : oi.apart ops oj = true ∧ nd j = true := by
  unfold freeN at h
  rw [hi] at h
  simp only [List.all_eq_true, List.mem_range] at h
  have hlt : j < ops.size := (Array.getElem?_eq_some_iff.1 hj).1
  have := h j hlt
  rw [hj] at this
  simp only [Bool.or_eq_true, Bool.and_eq_true, beq_iff_eq] at this
  rcases this with ((h1 | h1) | h1) | h1
  · exact absurd h1 hji
  · rw [hun] at h1
    cases h1
  · rw [hno] at h1
    cases h1
  · exact h1

/-- In one order: beside a number 2: it is taken first (it yields in whatever world); 1: it is taken first (it only reads); 0: it alone may come up. -/
def wpSeq (P : Program) (ops : Array Oper) (S : World → Prop) (nd : Nat → Bool) (Q : Exit → Act → World → Prop) : List (Nat × Nat) → Act → World → Prop
  | [], a, w => Q .normal a w
  | (i, 2) :: rest, a, w => ∃ o v, ops[i]? = some o ∧ Yields P ops o v a ∧ (∀ c a w, Q (.panic c) (a.put o.dst v) w → Q (.panic c) a w) ∧ wpSeq P ops S nd Q rest (a.put o.dst v) w
  | (i, 1) :: rest, a, w => ∃ o v, ops[i]? = some o ∧ YieldsIf P ops S o v a ∧ (∀ c a w, Q (.panic c) (a.put o.dst v) w → Q (.panic c) a w) ∧ S w ∧ wpSeq P ops S nd Q rest (a.put o.dst v) w
  | (i, 0) :: rest, a, w => wpOp P ops Q i (fun a' w' => (nd i = true → S w → S w') ∧ wpSeq P ops S nd Q rest a' w') a w
  | (_, _ + 3) :: _, _, _ => False

def seqOk (ops : Array Oper) (nd : Nat → Bool) : List (Nat × Nat) → Array Bool → Bool
  | [], listed => (Region.ready .any ops listed).isEmpty
  | (i, 2) :: rest, listed => (Region.ready .any ops listed).contains i && Region.free .any ops listed i && seqOk ops nd rest (listed.setIfInBounds i true)
  | (i, 1) :: rest, listed => (Region.ready .any ops listed).contains i && freeN nd .any ops listed i && seqOk ops nd rest (listed.setIfInBounds i true)
  | (i, 0) :: rest, listed => (Region.ready .any ops listed == [i]) && seqOk ops nd rest (listed.setIfInBounds i true)
  | (_, _ + 3) :: _, _ => false

theorem wpAnyN_of_seq (hsel : Region.noSelect ops = true) : ∀ (l : List (Nat × Nat)) (listed : Array Bool) (a : Act) (w : World), Closed .any ops listed → seqOk ops nd l listed = true → wpSeq P ops S nd Q l a w → wpAnyN P .any ops Q S nd l.length listed a w
  | [], listed, a, w, _, hok, h => ⟨by simpa [seqOk, List.isEmpty_iff] using hok, h⟩
  | (i, 2) :: rest, listed, a, w, hcl, hok, h => by
    simp only [seqOk, Bool.and_eq_true] at hok
    obtain ⟨⟨hr, hf⟩, hok⟩ := hok
    obtain ⟨o, v, ho, hy, hQ, h⟩ := h
    exact wpAnyN_pure ho (Region.noSelect_spec hsel) hQ _ listed a w (Region.free_spec ho hf) (by simpa using hr) hy (wpAnyN_of_seq hsel rest _ _ _ (hcl.set (by simpa using hr)) hok h)
  | (i, 1) :: rest, listed, a, w, hcl, hok, h => by
    simp only [seqOk, Bool.and_eq_true] at hok
    obtain ⟨⟨hr, hf⟩, hok⟩ := hok
    obtain ⟨o, v, ho, hy, hQ, hS, h⟩ := h
    exact wpAnyN_first ops.size ho (Region.noSelect_spec hsel) hQ _ listed a w hcl (freeN_spec ho hf) (by simpa using hr) hy hS (wpAnyN_of_seq hsel rest _ _ _ (hcl.set (by simpa using hr)) hok h)
  | (i, 0) :: rest, listed, a, w, hcl, hok, h => by
    simp only [seqOk, Bool.and_eq_true, beq_iff_eq] at hok
    obtain ⟨hr, hok⟩ := hok
    refine ⟨fun h0 => (by rw [hr] at h0; cases h0), fun j hj => ?_⟩
    rw [hr] at hj
    obtain rfl : j = i := by simpa using hj
    exact wpOp_mono (fun a' w' h' => ⟨h'.1, wpAnyN_of_seq hsel rest _ a' w' (hcl.set (by rw [hr]; simp)) hok h'.2⟩) h
  | (_, _ + 3) :: _, _, _, _, _, _, h => h.elim

/-- THE BEGINNING. -/
theorem wp_region_seq {id : Nat} {a : Act} {w : World} {l : List Oper} (order : List (Nat × Nat)) (nd : Nat → Bool) (S : World → Prop) (hm : P.follows .mixedOrders = true)
    (hok : (decide (order.length = l.length) && Region.noSelect l.toArray && seqOk l.toArray nd order (Array.replicate l.length false)) = true)
    (h0 : ∀ ops, ops = l.toArray → wpSeq P ops S nd Q order a w.drew) : (Code.region id l.toArray true).wp P Q a w := by
  have h := h0 _ rfl
  simp only [Bool.and_eq_true, decide_eq_true_eq] at hok
  obtain ⟨⟨hl, hsel⟩, hok⟩ := hok
  refine wp_region_any hm (wpAny_of_need (S := S) (nd := nd) _ _ _ _ ?_)
  have := wpAnyN_of_seq (P := P) (Q := Q) (S := S) hsel order _ a _ (fun j oj _ hl => by
    have : (Array.replicate l.length false).getD j false = false := by simp only [Array.getD_eq_getD_getElem?, Array.getElem?_replicate]; split <;> rfl
    rw [this] at hl
    cases hl) hok h
  rw [hl] at this
  simpa using this

theorem wpSeq_nil {a : Act} {w : World} (h : Q .normal a w) : wpSeq P ops S nd Q [] a w := h
/-- what yields in whatever world -/
theorem wpSeq_pure {i : Nat} {o : Oper} {v : Value} {rest : List (Nat × Nat)} {a : Act} {w : World} (ho : ops[i]? = some o) (hw : Region.wanted o (yielded ops a.tmps) = true) (hQ : ∀ c a w, Q (.panic c) (a.put o.dst v) w → Q (.panic c) a w)
    (hy : ∀ w', (execOp a.eval o).run P w' = .ok (.value v) w') (h : wpSeq P ops S nd Q rest (a.put o.dst v) w) : wpSeq P ops S nd Q ((i, 2) :: rest) a w :=
  ⟨o, v, ho, .inl ⟨hw, hy⟩, hQ, h⟩
/-- what only reads, and is wanted -/
theorem wpSeq_read {i : Nat} {o : Oper} {v : Value} {rest : List (Nat × Nat)} {a : Act} {w : World} (ho : ops[i]? = some o) (hw : Region.wanted o (yielded ops a.tmps) = true) (hQ : ∀ c a w, Q (.panic c) (a.put o.dst v) w → Q (.panic c) a w) (hS : S w)
    (hy : ∀ w', S w' → (execOp a.eval o).run P w' = .ok (.value v) w') (h : wpSeq P ops S nd Q rest (a.put o.dst v) w) : wpSeq P ops S nd Q ((i, 1) :: rest) a w :=
  ⟨o, v, ho, .inl ⟨hw, hy⟩, hQ, hS, h⟩
/-- what is not wanted -/
theorem wpSeq_skip {i : Nat} {o : Oper} {rest : List (Nat × Nat)} {a : Act} {w : World} (ho : ops[i]? = some o) (hw : Region.wanted o (yielded ops a.tmps) = false) (hQ : ∀ c a w, Q (.panic c) (a.put o.dst undef) w → Q (.panic c) a w)
    (h : wpSeq P ops S nd Q rest (a.put o.dst undef) w) : wpSeq P ops S nd Q ((i, 2) :: rest) a w :=
  ⟨o, undef, ho, .inr ⟨hw, rfl⟩, hQ, h⟩
theorem wpSeq_skip1 {i : Nat} {o : Oper} {rest : List (Nat × Nat)} {a : Act} {w : World} (ho : ops[i]? = some o) (hw : Region.wanted o (yielded ops a.tmps) = false) (hQ : ∀ c a w, Q (.panic c) (a.put o.dst undef) w → Q (.panic c) a w) (hS : S w)
    (h : wpSeq P ops S nd Q rest (a.put o.dst undef) w) : wpSeq P ops S nd Q ((i, 1) :: rest) a w :=
  ⟨o, undef, ho, .inr ⟨hw, rfl⟩, hQ, hS, h⟩
/-- what does more -/
theorem wpSeq_step {i : Nat} {o : Oper} {rest : List (Nat × Nat)} {a : Act} {w : World} (ho : ops[i]? = some o)
    (h : ∀ K : Act → World → Prop, (∀ a' w', (nd i = true → S w → S w') → wpSeq P ops S nd Q rest a' w' → K a' w') → if Region.wanted o (yielded ops a.tmps) = true then o.wp P a w K Q else K (a.put o.dst undef) w) :
    wpSeq P ops S nd Q ((i, 0) :: rest) a w := by
  show wpOp P ops Q i _ a w
  have := h (fun a' w' => (nd i = true → S w → S w') ∧ wpSeq P ops S nd Q rest a' w') (fun a' w' h1 h2 => ⟨h1, h2⟩)
  unfold wpOp
  rw [ho]
  show if Region.wanted o (yielded ops a.tmps) = true then _ else _
  split
  · rename_i hw
    rw [if_pos hw] at this
    exact .inl this
  · rename_i hw
    rw [if_neg hw] at this
    exact this

/-! ### One operation (an alloc) that may come up anywhere ahead of its own place -/
/-- beside a number: 2, 1 as in wpSeq; 0: it, or number al, comes up: al first: then 'alt'; 4: number al at its own place, then 'alt'. -/
def wpFl (P : Program) (ops : Array Oper) (S : World → Prop) (nd : Nat → Bool) (Q : Exit → Act → World → Prop) (al : Nat) : List (Nat × Nat × List (Nat × Nat)) → Act → World → Prop
  | [], _, _ => False
  | (i, 2, _) :: rest, a, w => ∃ o v, ops[i]? = some o ∧ Yields P ops o v a ∧ (∀ c a w, Q (.panic c) (a.put o.dst v) w → Q (.panic c) a w) ∧ wpFl P ops S nd Q al rest (a.put o.dst v) w
  | (i, 1, _) :: rest, a, w => ∃ o v, ops[i]? = some o ∧ YieldsIf P ops S o v a ∧ (∀ c a w, Q (.panic c) (a.put o.dst v) w → Q (.panic c) a w) ∧ S w ∧ wpFl P ops S nd Q al rest (a.put o.dst v) w
  | (i, 0, alt) :: rest, a, w => wpOp P ops Q i (fun a' w' => (nd i = true → S w → S w') ∧ wpFl P ops S nd Q al rest a' w') a w ∧ wpOp P ops Q al (fun a' w' => (nd al = true → S w → S w') ∧ wpSeq P ops S nd Q alt a' w') a w
  | (_, 4, alt) :: _, a, w => wpOp P ops Q al (fun a' w' => (nd al = true → S w → S w') ∧ wpSeq P ops S nd Q alt a' w') a w
  | (_, 3, _) :: _, _, _ => False
  | (_, _ + 5, _) :: _, _, _ => False

def flen : List (Nat × Nat × List (Nat × Nat)) → Nat
  | [] => 0
  | (_, 4, alt) :: _ => alt.length + 1
  | _ :: rest => flen rest + 1

def flOk (ops : Array Oper) (nd : Nat → Bool) (al : Nat) : List (Nat × Nat × List (Nat × Nat)) → Array Bool → Bool
  | [], _ => false
  | (i, 2, _) :: rest, listed => (Region.ready .any ops listed).contains i && Region.free .any ops listed i && flOk ops nd al rest (listed.setIfInBounds i true)
  | (i, 1, _) :: rest, listed => (Region.ready .any ops listed).contains i && freeN nd .any ops listed i && flOk ops nd al rest (listed.setIfInBounds i true)
  | (i, 0, alt) :: rest, listed => (Region.ready .any ops listed).all (fun j => j == i || j == al) && (Region.ready .any ops listed).contains i && (Region.ready .any ops listed).contains al && decide (alt.length = flen rest) && flOk ops nd al rest (listed.setIfInBounds i true) && seqOk ops nd alt (listed.setIfInBounds al true)
  | (_, 4, alt) :: _, listed => (Region.ready .any ops listed == [al]) && seqOk ops nd alt (listed.setIfInBounds al true)
  | (_, 3, _) :: _, _ => false
  | (_, _ + 5, _) :: _, _ => false

theorem wpAnyN_of_fl (hsel : Region.noSelect ops = true) {al : Nat} : ∀ (l : List (Nat × Nat × List (Nat × Nat))) (listed : Array Bool) (a : Act) (w : World), Closed .any ops listed → flOk ops nd al l listed = true → wpFl P ops S nd Q al l a w → wpAnyN P .any ops Q S nd (flen l) listed a w
  | [], _, _, _, _, _, h => h.elim
  | (i, 2, alt) :: rest, listed, a, w, hcl, hok, h => by
    simp only [flOk, Bool.and_eq_true] at hok
    obtain ⟨⟨hr, hf⟩, hok⟩ := hok
    obtain ⟨o, v, ho, hy, hQ, h⟩ := h
    exact wpAnyN_pure ho (Region.noSelect_spec hsel) hQ _ listed a w (Region.free_spec ho hf) (by simpa using hr) hy (wpAnyN_of_fl hsel rest _ _ _ (hcl.set (by simpa using hr)) hok h)
  | (i, 1, alt) :: rest, listed, a, w, hcl, hok, h => by
    simp only [flOk, Bool.and_eq_true] at hok
    obtain ⟨⟨hr, hf⟩, hok⟩ := hok
    obtain ⟨o, v, ho, hy, hQ, hS, h⟩ := h
    exact wpAnyN_first ops.size ho (Region.noSelect_spec hsel) hQ _ listed a w hcl (freeN_spec ho hf) (by simpa using hr) hy hS (wpAnyN_of_fl hsel rest _ _ _ (hcl.set (by simpa using hr)) hok h)
  | (i, 0, alt) :: rest, listed, a, w, hcl, hok, h => by
    simp only [flOk, Bool.and_eq_true, decide_eq_true_eq, List.all_eq_true, Bool.or_eq_true, beq_iff_eq, List.contains_iff_mem] at hok
    obtain ⟨⟨⟨⟨⟨hall, hi⟩, hal⟩, hlen⟩, hok1⟩, hok2⟩ := hok
    refine ⟨fun h0 => (by rw [h0] at hi; cases hi), fun j hj => ?_⟩
    rcases hall j hj with rfl | rfl
    · exact wpOp_mono (fun a' w' h' => ⟨h'.1, wpAnyN_of_fl hsel rest _ a' w' (hcl.set hi) hok1 h'.2⟩) h.1
    · refine wpOp_mono (fun a' w' h' => ⟨h'.1, ?_⟩) h.2
      have := wpAnyN_of_seq (P := P) (Q := Q) (S := S) hsel alt _ a' w' (hcl.set hal) hok2 h'.2
      rw [hlen] at this
      exact this
  | (_, 4, alt) :: _, listed, a, w, hcl, hok, h => by
    simp only [flOk, Bool.and_eq_true, beq_iff_eq] at hok
    obtain ⟨hr, hok⟩ := hok
    refine ⟨fun h0 => (by rw [hr] at h0; cases h0), fun j hj => ?_⟩
    rw [hr] at hj
    obtain rfl : j = al := by simpa using hj
    exact wpOp_mono (fun a' w' h' => ⟨h'.1, wpAnyN_of_seq (P := P) (Q := Q) (S := S) hsel alt _ a' w' (hcl.set (by rw [hr]; simp)) hok h'.2⟩) h
  | (_, 3, _) :: _, _, _, _, _, _, h => h.elim
  | (_, _ + 5, _) :: _, _, _, _, _, _, h => h.elim

theorem wp_region_fl {id : Nat} {a : Act} {w : World} {l : List Oper} (al : Nat) (order : List (Nat × Nat × List (Nat × Nat))) (nd : Nat → Bool) (S : World → Prop) (hm : P.follows .mixedOrders = true)
    (hok : (decide (flen order = l.length) && Region.noSelect l.toArray && flOk l.toArray nd al order (Array.replicate l.length false)) = true)
    (h0 : ∀ ops, ops = l.toArray → wpFl P ops S nd Q al order a w.drew) : (Code.region id l.toArray true).wp P Q a w := by
  have h := h0 _ rfl
  simp only [Bool.and_eq_true, decide_eq_true_eq] at hok
  obtain ⟨⟨hl, hsel⟩, hok⟩ := hok
  refine wp_region_any hm (wpAny_of_need (S := S) (nd := nd) _ _ _ _ ?_)
  have := wpAnyN_of_fl (P := P) (Q := Q) (S := S) hsel order _ a _ (fun j oj _ hl => by
    have : (Array.replicate l.length false).getD j false = false := by simp only [Array.getD_eq_getD_getElem?, Array.getElem?_replicate]; split <;> rfl
    rw [this] at hl
    cases hl) hok h
  rw [hl] at this
  simpa using this

theorem wpFl_pure {al i : Nat} {o : Oper} {v : Value} {alt : List (Nat × Nat)} {rest : List (Nat × Nat × List (Nat × Nat))} {a : Act} {w : World} (ho : ops[i]? = some o) (hw : Region.wanted o (yielded ops a.tmps) = true) (hQ : ∀ c a w, Q (.panic c) (a.put o.dst v) w → Q (.panic c) a w)
    (hy : ∀ w', (execOp a.eval o).run P w' = .ok (.value v) w') (h : wpFl P ops S nd Q al rest (a.put o.dst v) w) : wpFl P ops S nd Q al ((i, 2, alt) :: rest) a w :=
  ⟨o, v, ho, .inl ⟨hw, hy⟩, hQ, h⟩
theorem wpFl_read {al i : Nat} {o : Oper} {v : Value} {alt : List (Nat × Nat)} {rest : List (Nat × Nat × List (Nat × Nat))} {a : Act} {w : World} (ho : ops[i]? = some o) (hw : Region.wanted o (yielded ops a.tmps) = true) (hQ : ∀ c a w, Q (.panic c) (a.put o.dst v) w → Q (.panic c) a w) (hS : S w)
    (hy : ∀ w', S w' → (execOp a.eval o).run P w' = .ok (.value v) w') (h : wpFl P ops S nd Q al rest (a.put o.dst v) w) : wpFl P ops S nd Q al ((i, 1, alt) :: rest) a w :=
  ⟨o, v, ho, .inl ⟨hw, hy⟩, hQ, hS, h⟩
theorem wpOp_of {i : Nat} {o : Oper} {a : Act} {w : World} {F : Act → World → Prop} (ho : ops[i]? = some o)
    (h : ∀ K : Act → World → Prop, (∀ a' w', F a' w' → K a' w') → if Region.wanted o (yielded ops a.tmps) = true then o.wp P a w K Q else K (a.put o.dst undef) w) : wpOp P ops Q i F a w := by
  have := h F (fun _ _ h => h)
  unfold wpOp
  rw [ho]
  show if Region.wanted o (yielded ops a.tmps) = true then _ else _
  split
  · rename_i hw
    rw [if_pos hw] at this
    exact .inl this
  · rename_i hw
    rw [if_neg hw] at this
    exact this
/-- number i comes up, or the alloc -/
theorem wpFl_fork {al i : Nat} {o oa : Oper} {alt : List (Nat × Nat)} {rest : List (Nat × Nat × List (Nat × Nat))} {a : Act} {w : World} (ho : ops[i]? = some o) (hoa : ops[al]? = some oa)
    (h1 : ∀ K : Act → World → Prop, (∀ a' w', (nd i = true → S w → S w') → wpFl P ops S nd Q al rest a' w' → K a' w') → if Region.wanted o (yielded ops a.tmps) = true then o.wp P a w K Q else K (a.put o.dst undef) w)
    (h2 : ∀ K : Act → World → Prop, (∀ a' w', (nd al = true → S w → S w') → wpSeq P ops S nd Q alt a' w' → K a' w') → if Region.wanted oa (yielded ops a.tmps) = true then oa.wp P a w K Q else K (a.put oa.dst undef) w) :
    wpFl P ops S nd Q al ((i, 0, alt) :: rest) a w :=
  ⟨wpOp_of ho fun K hK => h1 K fun a' w' x y => hK a' w' ⟨x, y⟩, wpOp_of hoa fun K hK => h2 K fun a' w' x y => hK a' w' ⟨x, y⟩⟩
theorem wpFl_here {al i : Nat} {oa : Oper} {alt : List (Nat × Nat)} {rest : List (Nat × Nat × List (Nat × Nat))} {a : Act} {w : World} (hoa : ops[al]? = some oa)
    (h2 : ∀ K : Act → World → Prop, (∀ a' w', (nd al = true → S w → S w') → wpSeq P ops S nd Q alt a' w' → K a' w') → if Region.wanted oa (yielded ops a.tmps) = true then oa.wp P a w K Q else K (a.put oa.dst undef) w) :
    wpFl P ops S nd Q al ((i, 4, alt) :: rest) a w :=
  wpOp_of hoa fun K hK => h2 K fun a' w' x y => hK a' w' ⟨x, y⟩
end

end Go.Proofs.Ytfdgflhbooaomaa
