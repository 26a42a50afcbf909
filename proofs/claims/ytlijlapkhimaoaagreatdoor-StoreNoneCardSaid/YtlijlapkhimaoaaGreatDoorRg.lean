/- (within a round of a range over a function, too) A region that draws its order, walked in ONE order: what only reads is taken first, under 'S' (a condition on worlds that need not outlive the region's stores). Plain theorems, no program. -/
import Derived.OrdersHeld
import Derived.RegionTactic
import Derived.TacticsIn
import Derived.OrdersIn
namespace Go.Proofs.YtlijlapkhimaoaaGreatDoor

/-- whatever function, to whatever depth; in a round, or in none -/
def fz (r : Option Nat) : Fence := { fn := fun _ => True, depth := none, alive := false, round := r }
theorem callsR {r : Option Nat} {n : Nat} {P : Program} {f : FuncId} {args : Array Value} {w : World} {R : Ending → World → Prop} (h : Calls P f args w R) : CallsIn (fz r) n P f args w R := callsIn_wide.2 h
theorem callsR' {r : Option Nat} {n : Nat} {P : Program} {f : FuncId} {args : Array Value} {w : World} {R : Ending → World → Prop} (h : CallsIn (fz r) n P f args w R) : Calls P f args w R := callsIn_wide.1 (show CallsIn Fence.wide n P f args w R from h)
theorem semR {r : Option Nat} {ρ : Operand → Value} {o : Oper} (h : ∀ c, o.op ≠ .defer c) : o.semAt r ρ = execOp ρ o := Oper.semAt_eq r ρ o h

section
variable {r : Option Nat} {P : Program} {ops : Array Oper} {Q : Exit → Act → World → Prop} {md : Region.Mode} {S : World → Prop} {nd : Nat → Bool}

def noDefer (ops : Array Oper) : Bool := ops.all fun o => match o.op with | .defer _ => false | _ => true
theorem noDefer_spec (h : noDefer ops = true) {j : Nat} {o : Oper} (ho : ops[j]? = some o) (c : Call) : o.op ≠ .defer c := fun e => by
  unfold noDefer at h
  rw [Array.all_eq_true] at h
  obtain ⟨hlt, rfl⟩ := Array.getElem?_eq_some_iff.1 ho
  have := h j hlt
  rw [e] at this
  cases this

/-- an operation that yields v where S holds comes up -/
theorem yieldsIf_wpOpR {i : Nat} {o : Oper} {v : Value} {a : Act} (hd : ∀ c, o.op ≠ .defer c) (hi : ops[i]? = some o) (hy : YieldsIf P ops S o v a) {w : World} (hS : S w)
    {K : Act → World → Prop} (h : K (a.put o.dst v) w) : wpOpIn (fz r) 0 P ops Q i K a w := by
  unfold Go.wpOpIn
  rw [hi]
  show if Region.wanted o (yielded ops a.tmps) = true then _ else _
  rcases hy with ⟨hw, hv⟩ | ⟨hw, rfl⟩
  · rw [if_pos hw]
    refine ⟨fun _ _ => trivial, ?_⟩
    rw [show (fz r).round = r from rfl, semR hd, hv w hS]
    exact h
  · rw [if_neg (by simp [hw])]
    exact ⟨fun _ _ => trivial, h⟩
theorem yields_wpOpR {i : Nat} {o : Oper} {v : Value} {a : Act} (hd : ∀ c, o.op ≠ .defer c) (hi : ops[i]? = some o) (hy : Yields P ops o v a) {w : World}
    {K : Act → World → Prop} (h : K (a.put o.dst v) w) : wpOpIn (fz r) 0 P ops Q i K a w :=
  yieldsIf_wpOpR (S := fun _ => True) hd hi hy.yieldsIf trivial h

/-- an operation ahead of one that yields -/
theorem wpOpR_putIf {j : Nat} {oi oj : Oper} {v : Value} (hdj : ∀ c, oj.op ≠ .defer c) (hj : ops[j]? = some oj) (hap : oi.apart ops oj = true)
    (hsi : ∀ cs b, oi.op ≠ .select cs b) (hsj : ∀ cs b, oj.op ≠ .select cs b)
    (hQ : ∀ c a w, Q (.panic c) (a.put oi.dst v) w → Q (.panic c) a w) {K : Act → World → Prop} {a : Act} {w : World}
    (hy : YieldsIf P ops S oi v a) (h : wpOpIn (fz r) 0 P ops Q j K (a.put oi.dst v) w) :
    wpOpIn (fz r) 0 P ops Q j (fun a' w' => YieldsIf P ops S oi v a' ∧ K (a'.put oi.dst v) w') a w := by
  obtain ⟨h1, h2, h3⟩ := Oper.apart_spec hap
  have keep : ∀ (a : Act), YieldsIf P ops S oi v a → ∀ u, YieldsIf P ops S oi v (a.put oj.dst u) := fun a hy u => by
    unfold YieldsIf at *
    rw [execOp_put oi hsi a oj.dst u h3, wanted_put oi a oj.dst u h3]
    exact hy
  unfold wpOpIn at *
  rw [hj] at *
  simp only at *
  rw [wanted_put oj a oi.dst v h1] at h
  split
  · rename_i hw
    rw [if_pos hw] at h
    refine ⟨fun _ _ => trivial, ?_⟩
    have h := h.2
    rw [show (fz r).round = r from rfl, semR hdj, execOp_put oj hsj a oi.dst v h1] at h
    rw [show (fz r).round = r from rfl, semR hdj]
    generalize (execOp a.eval oj).run P w = rr at *
    cases rr with
    | ok x w' =>
      cases x <;> simp only [Oper.uponIn] at h ⊢
      case value u => exact ⟨keep a hy u, by rw [← Act.put_comm a v u h2]; exact h⟩
      case skip => exact ⟨keep a hy _, by rw [← Act.put_comm a v undef h2]; exact h⟩
      case defer d =>
        refine ⟨keep _ (show YieldsIf P ops S oi v { a with defers := d :: a.defers } from hy) _, ?_⟩
        rw [← Act.put_comm _ v undef h2, ← Act.put_defers]
        exact h
      case enter f args =>
        refine ⟨h.1, CallsIn.mono h.2 fun e w'' he => ?_⟩
        cases e with
        | returned u => exact ⟨keep a hy u, by rw [← Act.put_comm a v u h2]; exact he⟩
        | panicked ch => exact hQ _ _ _ he
        | outgrown => exact he
      case row row args => exact ⟨h.1, RowsIn.mono h.2 fun u w'' he => ⟨keep a hy u, by rw [← Act.put_comm a v u h2]; exact he⟩⟩
      case round l f tmps as bd =>
        refine ⟨h.1, RoundIn.mono h.2 fun e w'' he => ?_⟩
        cases e with
        | returned u => exact ⟨keep a hy u, by rw [← Act.put_comm a v u h2]; exact he⟩
        | panicked ch => exact hQ _ _ _ he
        | outgrown => exact he
    | halt x w' =>
      cases x <;> simp only [Oper.uponIn] at h ⊢
      exact hQ _ _ _ h
  · rename_i hw
    rw [if_neg hw] at h
    exact ⟨fun _ _ => trivial, keep a hy _, by rw [← Act.put_comm a v undef h2]; exact h.2⟩

/-- number j waits for number i, straight or through others -/
def waits (md : Region.Mode) (ops : Array Oper) : Nat → Nat → Nat → Bool
  | 0, _, _ => false
  | n + 1, j, i => match ops[j]? with
    | none => false
    | some oj => oj.after.any fun e => Region.binds md e && (e.on == i || waits md ops n e.on i)

/-- whoever is listed, all that it waits for is -/
def Closed (md : Region.Mode) (ops : Array Oper) (listed : Array Bool) : Prop := ∀ j oj, ops[j]? = some oj → listed.getD j false = true → ∀ e ∈ oj.after, Region.binds md e = true → listed.getD e.on false = true

theorem waits_listed {listed : Array Bool} (hc : Closed md ops listed) {i : Nat} : ∀ (n j : Nat) (oj : Oper), ops[j]? = some oj → (∀ e ∈ oj.after, Region.binds md e = true → listed.getD e.on false = true) → waits md ops n j i = true → listed.getD i false = true
  | 0, _, _, _, _, h => by simp [waits] at h
  | n + 1, j, oj, hj, he, h => by
    simp only [waits, hj, Array.any_eq_true', Bool.and_eq_true, Bool.or_eq_true, beq_iff_eq] at h
    obtain ⟨e, hm, hb, h | h⟩ := h
    · rw [← h]
      exact he e hm hb
    · have hl := he e hm hb
      cases hk : ops[e.on]? with
      | none =>
        cases n with
        | zero => simp [waits] at h
        | succ n => simp [waits, hk] at h
      | some ok => exact waits_listed hc n e.on ok hk (hc e.on ok hk hl) h

theorem Closed.set {listed : Array Bool} (hc : Closed md ops listed) {i : Nat} (hr : i ∈ Region.ready md ops listed) : Closed md ops (listed.setIfInBounds i true) := by
  intro j oj hj hl e he hb
  apply getD_set_true
  by_cases hji : j = i
  · subst hji
    obtain ⟨_, oi, hoi, hall⟩ := mem_ready.1 hr
    rw [hoi] at hj
    injection hj with hj
    subst hj
    exact hall e he hb
  · rw [getD_set_ne false (Ne.symm hji)] at hl
    exact hc j oj hj hl e he hb

/-- Whatever order is picked from here on; behind each operation that 'nd' names S is shown. -/
def wpAnyN (r : Option Nat) (P : Program) (md : Region.Mode) (ops : Array Oper) (Q : Exit → Act → World → Prop) (S : World → Prop) (nd : Nat → Bool) : Nat → Array Bool → Act → World → Prop
  | 0, listed, a, w => Region.ready md ops listed = [] ∧ Q .normal a w
  | fuel + 1, listed, a, w =>
    (Region.ready md ops listed = [] → Q .normal a w) ∧
    ∀ i ∈ Region.ready md ops listed, wpOpIn (fz r) 0 P ops Q i (fun a' w' => (nd i = true → S w → S w') ∧ wpAnyN r P md ops Q S nd fuel (listed.setIfInBounds i true) a' w') a w

theorem wpAny_of_need : ∀ (fuel : Nat) (listed : Array Bool) (a : Act) (w : World), wpAnyN r P md ops Q S nd fuel listed a w → wpAnyIn (fz r) 0 P md ops Q fuel listed a w
  | 0, _, _, _, h => h
  | fuel + 1, _, _, _, h => ⟨h.1, fun i hi => wpOpIn_mono (fun a' w' h' => wpAny_of_need fuel _ a' w' h'.2) (h.2 i hi)⟩

theorem wpAnyN_first (m : Nat) {i : Nat} {oi : Oper} {v : Value} (hi : ops[i]? = some oi) (hdf : ∀ (j : Nat) (o : Oper), ops[j]? = some o → ∀ c, o.op ≠ .defer c) (hsel : ∀ (j : Nat) (o : Oper) cs b, ops[j]? = some o → o.op ≠ .select cs b)
    (hQ : ∀ c a w, Q (.panic c) (a.put oi.dst v) w → Q (.panic c) a w) :
    ∀ (fuel : Nat) (listed : Array Bool) (a : Act) (w : World),
      Closed md ops listed → (∀ j oj, ops[j]? = some oj → j ≠ i → listed.getD j true = false → waits md ops m j i = false → oi.apart ops oj = true ∧ nd j = true) →
      i ∈ Region.ready md ops listed → YieldsIf P ops S oi v a → S w →
      wpAnyN r P md ops Q S nd fuel (listed.setIfInBounds i true) (a.put oi.dst v) w → wpAnyN r P md ops Q S nd (fuel + 1) listed a w := by
  intro fuel
  induction fuel with
  | zero =>
    intro listed a w _ _ hr hy hS H
    refine ⟨fun h => (by rw [h] at hr; cases hr), fun j hj => ?_⟩
    by_cases hji : j = i
    · subst hji
      exact yieldsIf_wpOpR (hdf _ _ hi) hi hy hS ⟨fun _ h => h, H⟩
    · have := ready_mono hj hji
      rw [H.1] at this
      cases this
  | succ fuel ih =>
    intro listed a w hcl hfree hr hy hS H
    refine ⟨fun h => (by rw [h] at hr; cases hr), fun j hj => ?_⟩
    by_cases hji : j = i
    · subst hji
      exact yieldsIf_wpOpR (hdf _ _ hi) hi hy hS ⟨fun _ h => h, H⟩
    · have h1 := H.2 j (ready_mono hj hji)
      obtain ⟨hjun, oj, hoj, hall⟩ := mem_ready.1 hj
      have hnot : waits md ops m j i = false := by
        cases hw : waits md ops m j i with
        | false => rfl
        | true =>
          have h1 := waits_listed hcl m j oj hoj hall hw
          have h0 := (mem_ready.1 hr).1
          rcases Nat.lt_or_ge i listed.size with h' | h'
          · simp [h'] at h0 h1
            rw [h0] at h1
            cases h1
          · simp [Array.getElem?_eq_none h'] at h1
      obtain ⟨hap, hnd⟩ := hfree j oj hoj hji hjun hnot
      have h2 := wpOpR_putIf (hdf _ _ hoj) hoj hap (fun cs b => hsel i oi cs b hi) (fun cs b => hsel j oj cs b hoj) hQ hy h1
      have hfree' : ∀ k ok, ops[k]? = some ok → k ≠ i → (listed.setIfInBounds j true).getD k true = false →
          waits md ops m k i = false → oi.apart ops ok = true ∧ nd k = true := fun k ok hk hki hun hno => by
        refine hfree k ok hk hki ?_ hno
        by_cases hjk : j = k
        · subst hjk
          exact hjun
        · rw [getD_set_ne true hjk] at hun
          exact hun
      refine wpOpIn_mono (fun a' w' h3 => ⟨h3.2.1, ih (listed.setIfInBounds j true) a' w' (hcl.set hj) hfree' (ready_mono hr (Ne.symm hji)) h3.1 (h3.2.1 hnd hS) ?_⟩) h2
      rw [Array.setIfInBounds_comm _ _ hji]
      exact h3.2.2

/-- what yields in whatever world -/
theorem wpAnyN_pure {i : Nat} {oi : Oper} {v : Value} (hi : ops[i]? = some oi) (hdf : ∀ (j : Nat) (o : Oper), ops[j]? = some o → ∀ c, o.op ≠ .defer c) (hsel : ∀ (j : Nat) (o : Oper) cs b, ops[j]? = some o → o.op ≠ .select cs b)
    (hQ : ∀ c a w, Q (.panic c) (a.put oi.dst v) w → Q (.panic c) a w) :
    ∀ (fuel : Nat) (listed : Array Bool) (a : Act) (w : World),
      (∀ j oj, ops[j]? = some oj → j ≠ i → listed.getD j true = false → (∀ e ∈ oj.after, Region.binds md e = true → e.on ≠ i) → oi.apart ops oj = true) →
      i ∈ Region.ready md ops listed → Yields P ops oi v a →
      wpAnyN r P md ops Q S nd fuel (listed.setIfInBounds i true) (a.put oi.dst v) w → wpAnyN r P md ops Q S nd (fuel + 1) listed a w := by
  intro fuel
  induction fuel with
  | zero =>
    intro listed a w _ hr hy H
    refine ⟨fun h => (by rw [h] at hr; cases hr), fun j hj => ?_⟩
    by_cases hji : j = i
    · subst hji
      exact yields_wpOpR (hdf _ _ hi) hi hy ⟨fun _ h => h, H⟩
    · have := ready_mono hj hji
      rw [H.1] at this
      cases this
  | succ fuel ih =>
    intro listed a w hfree hr hy H
    refine ⟨fun h => (by rw [h] at hr; cases hr), fun j hj => ?_⟩
    by_cases hji : j = i
    · subst hji
      exact yields_wpOpR (hdf _ _ hi) hi hy ⟨fun _ h => h, H⟩
    · have h1 := H.2 j (ready_mono hj hji)
      obtain ⟨hjun, oj, hoj, hall⟩ := mem_ready.1 hj
      have hnot : ∀ e ∈ oj.after, Region.binds md e = true → e.on ≠ i := fun e he hb heq => by
        have h1 := hall e he hb
        have h0 := (mem_ready.1 hr).1
        rw [heq] at h1
        rcases Nat.lt_or_ge i listed.size with h' | h'
        · simp [h'] at h0 h1
          rw [h0] at h1
          cases h1
        · simp [Array.getElem?_eq_none h'] at h1
      have hap := hfree j oj hoj hji hjun hnot
      have h2 := wpOpR_putIf (S := fun _ => True) (hdf _ _ hoj) hoj hap (fun cs b => hsel i oi cs b hi) (fun cs b => hsel j oj cs b hoj) hQ hy.yieldsIf h1
      have hfree' : ∀ k ok, ops[k]? = some ok → k ≠ i → (listed.setIfInBounds j true).getD k true = false →
          (∀ e ∈ ok.after, Region.binds md e = true → e.on ≠ i) → oi.apart ops ok = true := fun k ok hk hki hun hno => by
        refine hfree k ok hk hki ?_ hno
        by_cases hjk : j = k
        · subst hjk
          exact hjun
        · rw [getD_set_ne true hjk] at hun
          exact hun
      refine wpOpIn_mono (fun a' w' h3 => ⟨h3.2.1, ih (listed.setIfInBounds j true) a' w' hfree' (ready_mono hr (Ne.symm hji)) (h3.1.imp (fun h => ⟨h.1, fun w => h.2 w trivial⟩) id) ?_⟩) h2
      rw [Array.setIfInBounds_comm _ _ hji]
      exact h3.2.2

/-- who could come ahead of number i is apart from it, and keeps S -/
def freeN (nd : Nat → Bool) (md : Region.Mode) (ops : Array Oper) (listed : Array Bool) (i : Nat) : Bool :=
  match ops[i]? with
  | none => false
  | some oi => (List.range ops.size).all fun j =>
    match ops[j]? with
    | none => true
    | some oj => j == i || listed.getD j true || waits md ops ops.size j i || (oi.apart ops oj && nd j)

theorem freeN_spec {i : Nat} {oi : Oper} {listed : Array Bool} (hi : ops[i]? = some oi) (h : freeN nd md ops listed i = true) (j : Nat) (oj : Oper) (hj : ops[j]? = some oj) (hji : j ≠ i) (hun : listed.getD j true = false)
    (hno : waits md ops ops.size j i = false) : oi.apart ops oj = true ∧ nd j = true := by
  unfold freeN at h
  rw [hi] at h
  simp only [List.all_eq_true, List.mem_range] at h
  have hlt : j < ops.size := (Array.getElem?_eq_some_iff.1 hj).1
  have := h j hlt
  rw [hj] at this
  simp only [Bool.or_eq_true, Bool.and_eq_true, beq_iff_eq] at this
  rcases this with ((h1 | h1) | h1) | h1
  · exact absurd h1 hji
  · rw [hun] at h1
    cases h1
  · rw [hno] at h1
    cases h1
  · exact h1

/-- In one order: beside a number 2: it is taken first (it yields in whatever world); 1: it is taken first (it only reads); 0: it alone may come up. -/
def wpSeq (r : Option Nat) (P : Program) (ops : Array Oper) (S : World → Prop) (nd : Nat → Bool) (Q : Exit → Act → World → Prop) : List (Nat × Nat) → Act → World → Prop
  | [], a, w => Q .normal a w
  | (i, 2) :: rest, a, w => ∃ o v, ops[i]? = some o ∧ Yields P ops o v a ∧ (∀ c a w, Q (.panic c) (a.put o.dst v) w → Q (.panic c) a w) ∧ wpSeq r P ops S nd Q rest (a.put o.dst v) w
  | (i, 1) :: rest, a, w => ∃ o v, ops[i]? = some o ∧ YieldsIf P ops S o v a ∧ (∀ c a w, Q (.panic c) (a.put o.dst v) w → Q (.panic c) a w) ∧ S w ∧ wpSeq r P ops S nd Q rest (a.put o.dst v) w
  | (i, 0) :: rest, a, w => wpOpIn (fz r) 0 P ops Q i (fun a' w' => (nd i = true → S w → S w') ∧ wpSeq r P ops S nd Q rest a' w') a w
  | (_, _ + 3) :: _, _, _ => False

def seqOk (ops : Array Oper) (nd : Nat → Bool) : List (Nat × Nat) → Array Bool → Bool
  | [], listed => (Region.ready .any ops listed).isEmpty
  | (i, 2) :: rest, listed => (Region.ready .any ops listed).contains i && Region.free .any ops listed i && seqOk ops nd rest (listed.setIfInBounds i true)
  | (i, 1) :: rest, listed => (Region.ready .any ops listed).contains i && freeN nd .any ops listed i && seqOk ops nd rest (listed.setIfInBounds i true)
  | (i, 0) :: rest, listed => (Region.ready .any ops listed == [i]) && seqOk ops nd rest (listed.setIfInBounds i true)
  | (_, _ + 3) :: _, _ => false

theorem wpAnyN_of_seq (hdf : ∀ (j : Nat) (o : Oper), ops[j]? = some o → ∀ c, o.op ≠ .defer c) (hsel : Region.noSelect ops = true) : ∀ (l : List (Nat × Nat)) (listed : Array Bool) (a : Act) (w : World), Closed .any ops listed → seqOk ops nd l listed = true → wpSeq r P ops S nd Q l a w → wpAnyN r P .any ops Q S nd l.length listed a w
  | [], listed, a, w, _, hok, h => ⟨by simpa [seqOk, List.isEmpty_iff] using hok, h⟩
  | (i, 2) :: rest, listed, a, w, hcl, hok, h => by
    simp only [seqOk, Bool.and_eq_true] at hok
    obtain ⟨⟨hr, hf⟩, hok⟩ := hok
    obtain ⟨o, v, ho, hy, hQ, h⟩ := h
    exact wpAnyN_pure ho hdf (Region.noSelect_spec hsel) hQ _ listed a w (Region.free_spec ho hf) (by simpa using hr) hy (wpAnyN_of_seq hdf hsel rest _ _ _ (hcl.set (by simpa using hr)) hok h)
  | (i, 1) :: rest, listed, a, w, hcl, hok, h => by
    simp only [seqOk, Bool.and_eq_true] at hok
    obtain ⟨⟨hr, hf⟩, hok⟩ := hok
    obtain ⟨o, v, ho, hy, hQ, hS, h⟩ := h
    exact wpAnyN_first ops.size ho hdf (Region.noSelect_spec hsel) hQ _ listed a w hcl (freeN_spec ho hf) (by simpa using hr) hy hS (wpAnyN_of_seq hdf hsel rest _ _ _ (hcl.set (by simpa using hr)) hok h)
  | (i, 0) :: rest, listed, a, w, hcl, hok, h => by
    simp only [seqOk, Bool.and_eq_true, beq_iff_eq] at hok
    obtain ⟨hr, hok⟩ := hok
    refine ⟨fun h0 => (by rw [hr] at h0; cases h0), fun j hj => ?_⟩
    rw [hr] at hj
    obtain rfl : j = i := by simpa using hj
    exact wpOpIn_mono (fun a' w' h' => ⟨h'.1, wpAnyN_of_seq hdf hsel rest _ a' w' (hcl.set (by rw [hr]; simp)) hok h'.2⟩) h
  | (_, _ + 3) :: _, _, _, _, _, _, h => h.elim

/-- THE BEGINNING. -/
theorem wp_region_seq {id : Nat} {a : Act} {w : World} {l : List Oper} (order : List (Nat × Nat)) (nd : Nat → Bool) (S : World → Prop) (hm : P.follows .mixedOrders = true)
    (hok : (decide (order.length = l.length) && (noDefer l.toArray && Region.noSelect l.toArray) && seqOk l.toArray nd order (Array.replicate l.length false)) = true)
    (h0 : ∀ ops, ops = l.toArray → wpSeq r P ops S nd Q order a w.drew) : (Code.region id l.toArray true).wpIn (fz r) 0 P Q a w := by
  have h := h0 _ rfl
  simp only [Bool.and_eq_true, decide_eq_true_eq] at hok
  obtain ⟨⟨hl, hndf, hsel⟩, hok⟩ := hok
  refine wpIn_region_any hm (wpAny_of_need (S := S) (nd := nd) _ _ _ _ ?_)
  have := wpAnyN_of_seq (r := r) (P := P) (Q := Q) (S := S) (fun j o ho c => noDefer_spec hndf ho c) hsel order _ a _ (fun j oj _ hl => by
    have : (Array.replicate l.length false).getD j false = false := by simp only [Array.getD_eq_getD_getElem?, Array.getElem?_replicate]; split <;> rfl
    rw [this] at hl
    cases hl) hok h
  rw [hl] at this
  simpa using this

theorem wpSeq_nil {a : Act} {w : World} (h : Q .normal a w) : wpSeq r P ops S nd Q [] a w := h
/-- what yields in whatever world -/
theorem wpSeq_pure {i : Nat} {o : Oper} {v : Value} {rest : List (Nat × Nat)} {a : Act} {w : World} (ho : ops[i]? = some o) (hw : Region.wanted o (yielded ops a.tmps) = true) (hQ : ∀ c a w, Q (.panic c) (a.put o.dst v) w → Q (.panic c) a w)
    (hy : ∀ w', (execOp a.eval o).run P w' = .ok (.value v) w') (h : wpSeq r P ops S nd Q rest (a.put o.dst v) w) : wpSeq r P ops S nd Q ((i, 2) :: rest) a w :=
  ⟨o, v, ho, .inl ⟨hw, hy⟩, hQ, h⟩
/-- what only reads, and is wanted -/
theorem wpSeq_read {i : Nat} {o : Oper} {v : Value} {rest : List (Nat × Nat)} {a : Act} {w : World} (ho : ops[i]? = some o) (hw : Region.wanted o (yielded ops a.tmps) = true) (hQ : ∀ c a w, Q (.panic c) (a.put o.dst v) w → Q (.panic c) a w) (hS : S w)
    (hy : ∀ w', S w' → (execOp a.eval o).run P w' = .ok (.value v) w') (h : wpSeq r P ops S nd Q rest (a.put o.dst v) w) : wpSeq r P ops S nd Q ((i, 1) :: rest) a w :=
  ⟨o, v, ho, .inl ⟨hw, hy⟩, hQ, hS, h⟩
/-- what is not wanted -/
theorem wpSeq_skip {i : Nat} {o : Oper} {rest : List (Nat × Nat)} {a : Act} {w : World} (ho : ops[i]? = some o) (hw : Region.wanted o (yielded ops a.tmps) = false) (hQ : ∀ c a w, Q (.panic c) (a.put o.dst undef) w → Q (.panic c) a w)
    (h : wpSeq r P ops S nd Q rest (a.put o.dst undef) w) : wpSeq r P ops S nd Q ((i, 2) :: rest) a w :=
  ⟨o, undef, ho, .inr ⟨hw, rfl⟩, hQ, h⟩
theorem wpSeq_skip1 {i : Nat} {o : Oper} {rest : List (Nat × Nat)} {a : Act} {w : World} (ho : ops[i]? = some o) (hw : Region.wanted o (yielded ops a.tmps) = false) (hQ : ∀ c a w, Q (.panic c) (a.put o.dst undef) w → Q (.panic c) a w) (hS : S w)
    (h : wpSeq r P ops S nd Q rest (a.put o.dst undef) w) : wpSeq r P ops S nd Q ((i, 1) :: rest) a w :=
  ⟨o, undef, ho, .inr ⟨hw, rfl⟩, hQ, hS, h⟩
/-- what does more -/
theorem wpSeq_step {i : Nat} {o : Oper} {rest : List (Nat × Nat)} {a : Act} {w : World} (ho : ops[i]? = some o)
    (h : ∀ K : Act → World → Prop, (∀ a' w', (nd i = true → S w → S w') → wpSeq r P ops S nd Q rest a' w' → K a' w') → if Region.wanted o (yielded ops a.tmps) = true then o.wpIn (fz r) 0 P a w K Q else K (a.put o.dst undef) w) :
    wpSeq r P ops S nd Q ((i, 0) :: rest) a w := by
  show wpOpIn (fz r) 0 P ops Q i _ a w
  have := h (fun a' w' => (nd i = true → S w → S w') ∧ wpSeq r P ops S nd Q rest a' w') (fun a' w' h1 h2 => ⟨h1, h2⟩)
  unfold wpOpIn
  rw [ho]
  show if Region.wanted o (yielded ops a.tmps) = true then _ else _
  split
  · rename_i hw
    rw [if_pos hw] at this
    exact this
  · rename_i hw
    rw [if_neg hw] at this
    exact ⟨fun _ _ => trivial, this⟩
end

end Go.Proofs.YtlijlapkhimaoaaGreatDoor
