/- The evaluator, 3: what is known of a world. No program in sight. -/
import Derived.Test.YtlijlapkhimaoaaGreatDoorE2
import Derived.Test.YtlijlapkhimaoaaGreatDoorY2
import Derived.RangeFuncRecord
namespace Go.Proofs.YtlijlapkhimaoaaGreatDoor
open Go Go.RowKit

structure FRel (ν : Nm) (T : Tr AV) (N : Nat) (tmps : Array Value) : Prop where
  size : tmps.size = N
  slots : ∀ i v, T.get i = some v → ∃ V, den ν v = some V ∧ tmps[i]? = some V
theorem FRel.mono {ν ν' : Nm} {T : Tr AV} {N : Nat} {tmps : Array Value} (h : FRel ν T N tmps) (hν : Nm.le ν ν') : FRel ν' T N tmps :=
  ⟨h.size, fun i v hv => by
    obtain ⟨V, h1, h2⟩ := h.slots i v hv
    exact ⟨V, den_mono hν v V h1, h2⟩⟩
theorem FRel.put {ν : Nm} {T : Tr AV} {N : Nat} {tmps : Array Value} (h : FRel ν T N tmps) {d : Nat} {v : AV} {V : Value} (hd : d < N) (hv : den ν v = some V) : FRel ν (T.put d (some v)) N (tmps.setIfInBounds d V) :=
  ⟨by simp [h.size], fun i u hu => by
    rw [Tr.get_put] at hu
    split at hu
    · rename_i e
      subst e
      injection hu with hu
      subst hu
      exact ⟨V, hv, by simp [h.size, hd]⟩
    · rename_i hne
      obtain ⟨U, h1, h2⟩ := h.slots i u hu
      exact ⟨U, h1, by rw [Array.getElem?_setIfInBounds_ne (Ne.symm hne)]; exact h2⟩⟩
theorem FRel.putD {ν : Nm} {T : Tr AV} {N : Nat} {a : Act} (h : FRel ν T N a.tmps) {d : Option Nat} {v : AV} {V : Value} (hd : okD N d = true) (hv : den ν v = some V) : FRel ν (putD T d v) N (a.put d V).tmps := by
  cases d with
  | none => exact h
  | some d => exact h.put (Nat.le_of_ble_eq_true hd) hv
theorem FRel.evA {ν : Nm} {T : Tr AV} {N : Nat} {a : Act} (h : FRel ν T N a.tmps) {x : Operand} {v : AV} (hx : evA T x = some v) : den ν v = some (a.eval x) := by
  cases x with
  | tmp t =>
    obtain ⟨V, h1, h2⟩ := h.slots t v hx
    rw [h1]
    simp [Act.eval, h2]
  | const c => exact ofV_den hx
  | func f => simp only [YtlijlapkhimaoaaGreatDoor.evA, Option.some.injEq] at hx; subst hx; rfl
  | global g => simp only [YtlijlapkhimaoaaGreatDoor.evA, Option.some.injEq] at hx; subst hx; rfl

def ERel (ν : Nm) (e : AV × AV × Nat) (m : MapEntry) : Prop := den ν e.1 = some m.key ∧ den ν e.2.1 = some m.val ∧ e.2.2 = m.born
def optN (ν : Nm) : Option Nat → Option Nat → Prop
  | none, r => r = none
  | some i, r => ∃ g, ν i = some g ∧ r = some g

/-- a thing in memory, and what it is here -/
def ORel (P : Program) (ν : Nm) : AObj → Obj → Prop
  | .cells l t c, .cells arr t' fz => t' = t ∧ NoFz fz arr.size ∧ ∃ L R, denL ν l = some L ∧ arr.toList = L ++ R ∧
      (match c with
       | none => R = []
       | some c => ∃ cap i, ν c = some cap ∧ P.info? t = some i ∧ arr.size = cap * i.size)
  | .map es clock, .map arr clock' => clock' = clock ∧ All2 (ERel ν) es arr.toList
  | .iter m since seen stepped, .mapIter m' since' seen' stepped' => optN ν m m' ∧ since' = since ∧ seen'.toList = seen ∧ stepped' = stepped
  | .loop st pend T N ps assign body d, .loop r => r.state = st ∧ r.pending = pend ∧ FRel ν T N r.tmps ∧ r.params.toList = ps ∧ r.assign = assign ∧ r.body = body ∧ ν d = some r.defers
  | .defr, .deferred d => d = some []
  | _, _ => False

theorem ORel.mono {P : Program} {ν ν' : Nm} (hν : Nm.le ν ν') {o : AObj} {obj : Obj} (h : ORel P ν o obj) : ORel P ν' o obj := by
  cases o <;> cases obj <;> simp only [ORel] at h ⊢ <;> try exact h
  case cells.cells l t c arr t' fz =>
    obtain ⟨h1, h2, L, R, h3, h4, h5⟩ := h
    refine ⟨h1, h2, L, R, denL_mono hν l L h3, h4, ?_⟩
    cases c with
    | none => exact h5
    | some c =>
      obtain ⟨cap, i, h6, h7, h8⟩ := h5
      exact ⟨cap, i, hν _ _ h6, h7, h8⟩
  case map.map es clock arr clock' => exact ⟨h.1, All2.imp (fun e m hm => ⟨den_mono hν _ _ hm.1, den_mono hν _ _ hm.2.1, hm.2.2⟩) h.2⟩
  case iter.mapIter m a b c m' a' b' c' =>
    refine ⟨?_, h.2⟩
    cases m with
    | none => exact h.1
    | some i =>
      obtain ⟨g, h1, h2⟩ := h.1
      exact ⟨g, hν _ _ h1, h2⟩
  case loop.loop => exact ⟨h.1, h.2.1, h.2.2.1.mono hν, h.2.2.2.1, h.2.2.2.2.1, h.2.2.2.2.2.1, hν _ _ h.2.2.2.2.2.2⟩

/-- what the packages' variables hold in a world, cell by cell -/
def GlobOk (ν : Nm) (gl : List (Nat × List AV)) (w : World) : Prop := ∀ g l, (g, l) ∈ gl → ∀ i v, l[i]? = some v → ∃ V, den ν v = some V ∧ w.cell? ⟨g, i, none⟩ = some V
/-- a term is so, or not -/
def IsSo (ν : Nm) (t : Tm) (b : Bool) : Prop := ∃ n, denT ν t = some (.n n) ∧ decide (n ≠ 0) = b
structure CtxOk (ν : Nm) (x : Ctx) (w0 : World) : Prop where
  gl : GlobOk ν x.gl w0
  pc : ∀ t b, (t, b) ∈ x.pc → IsSo ν t b
theorem CtxOk.mono {ν ν' : Nm} {x : Ctx} {w0 : World} (h : CtxOk ν x w0) (hν : Nm.le ν ν') : CtxOk ν' x w0 :=
  ⟨fun g l hg i v hv => by
    obtain ⟨V, h1, h2⟩ := h.gl g l hg i v hv
    exact ⟨V, den_mono hν v V h1, h2⟩, fun t b ht => by
    obtain ⟨n, h1, h2⟩ := h.pc t b ht
    exact ⟨n, denT_mono hν t _ h1, h2⟩⟩

/-- where a region began -/
structure Anch where
  h : Tr AObj
  ν : Nm
  w : World

/-- What is known of the world w: w0: where all began; A: where the region began -/
structure WRel (P : Program) (w0 : World) (A : Anch) (ν : Nm) (s : St) (w : World) : Prop where
  keep : Keep [] w0 w
  top : ∀ i, s.n ≤ i → ν i = none
  objs : ∀ i o, s.h.get i = some o → ∃ g obj, ν i = some g ∧ w0.heap.size ≤ g ∧ w.heap[g]? = some obj ∧ ORel P ν o obj
  inj : ∀ i j o o', s.h.get i = some o → s.h.get j = some o' → ν i = ν j → i = j
  ext : Nm.le A.ν ν
  anc : ∀ i o, A.h.get i = some o → ∃ g, A.ν i = some g
  same : ∀ i o, A.h.get i = some o → i ∉ s.log → (∃ o, s.h.get i = some o) ∧ ∀ g, A.ν i = some g → w.heap[g]? = A.w.heap[g]?
  far : ∀ g, g < A.w.heap.size → (∀ i o, A.h.get i = some o → A.ν i ≠ some g) → w.heap[g]? = A.w.heap[g]?
  big : A.w.heap.size ≤ w.heap.size
  own : ∀ i o, s.h.get i = some o → ∀ g, ν i = some g → A.w.heap.size ≤ g ∨ ∃ j o, A.h.get j = some o ∧ A.ν j = some g
  ctx : CtxOk ν s.x w0

/-- one block turns -/
structure Upd (w : World) (g : Nat) (obj : Obj) (w' : World) : Prop where
  os : w'.os = w.os
  tape : w'.tape = w.tape
  output : w'.output = w.output
  size : w'.heap.size = w.heap.size
  here : w'.heap[g]? = some obj
  rest : ∀ k, k ≠ g → w'.heap[k]? = w.heap[k]?

def Nm.set (ν : Nm) (k v : Nat) : Nm := ⟨fun i => if i = k then some v else ν i, ν.x, ν.u⟩
theorem Nm.le_set {ν : Nm} {k : Nat} (h : ν k = none) (v : Nat) : Nm.le ν (ν.set k v) := ⟨fun i g hi => by
  unfold Nm.set
  simp only
  split
  · rename_i e; subst e; rw [h] at hi; cases hi
  · exact hi, fun _ _ h => h, fun _ _ _ h => h, rfl, rfl⟩
theorem Nm.set_same (ν : Nm) (k v : Nat) : (ν.set k v) k = some v := by simp [Nm.set]

section
variable {P : Program} {w0 w w' : World} {A : Anch} {ν : Nm} {s : St}

theorem WRel.lt (h : WRel P w0 A ν s w) {i g : Nat} {o : AObj} (hi : s.h.get i = some o) (hg : ν i = some g) : g < w.heap.size := by
  obtain ⟨g', obj, h1, _, h3, _⟩ := h.objs i o hi
  rw [hg] at h1
  injection h1 with h1
  subst h1
  exact (Array.getElem?_eq_some_iff.1 h3).1
theorem WRel.at_ (h : WRel P w0 A ν s w) {i g : Nat} {o : AObj} (hi : s.h.get i = some o) (hg : ν i = some g) : ∃ obj, w.heap[g]? = some obj ∧ ORel P ν o obj := by
  obtain ⟨g', obj, h1, _, h3, h4⟩ := h.objs i o hi
  rw [hg] at h1
  injection h1 with h1
  subst h1
  exact ⟨obj, h3, h4⟩
theorem WRel.named (h : WRel P w0 A ν s w) {k : Nat} (hk : ν k = none) (o : AObj) : s.h.get k ≠ some o := fun e => by
  obtain ⟨g, _, h1, _⟩ := h.objs k o e
  rw [hk] at h1
  cases h1
theorem WRel.namedA (h : WRel P w0 A ν s w) {k : Nat} (hk : ν k = none) (o : AObj) : A.h.get k ≠ some o := fun e => by
  obtain ⟨g, h1⟩ := h.anc k o e
  rw [h.ext _ _ h1] at hk
  cases hk

theorem WRel.drew (h : WRel P w0 A ν s w) : WRel P w0 A ν s w.drew := ⟨h.keep.trans (Keep.drew _ _), h.top, h.objs, h.inj, h.ext, h.anc, h.same, h.far, h.big, h.own, h.ctx⟩

/-- a thing turns -/
theorem WRel.write (h : WRel P w0 A ν s w) {i g : Nat} {o0 o : AObj} {obj : Obj} (hi : s.h.get i = some o0) (hg : ν i = some g) (hO : ORel P ν o obj) (hw : Upd w g obj w') {lg : List Nat} (hl : ∀ x ∈ s.log, x ∈ lg)
    (hil : ∀ o, A.h.get i = some o → i ∈ lg) : WRel P w0 A ν ⟨s.h.put i (some o), s.n, lg, s.x⟩ w' := by
  have hgs : w0.heap.size ≤ g := by
    obtain ⟨g', obj, h1, h2, _⟩ := h.objs i o0 hi
    rw [hg] at h1
    injection h1 with h1
    subst h1
    exact h2
  have old : ∀ j o', (s.h.put i (some o)).get j = some o' → j ≠ i → s.h.get j = some o' := fun j o' hj hne => by
    rw [Tr.get_put, if_neg hne] at hj
    exact hj
  have alive : ∀ j o', (s.h.put i (some o)).get j = some o' → ∃ o'', s.h.get j = some o'' := fun j o' hj => by
    by_cases e : j = i
    · subst e; exact ⟨_, hi⟩
    · exact ⟨_, old j o' hj e⟩
  refine ⟨⟨hw.os.trans h.keep.os, hw.tape.trans h.keep.tape, hw.output.trans h.keep.output, by rw [hw.size]; exact h.keep.size, fun k hk hn => ?_⟩, h.top, fun j o' hj => ?_, fun j k o1 o2 hj hk e => ?_, h.ext, h.anc, fun j o' hj hn => ?_, fun k hk hn => ?_, by rw [hw.size]; exact h.big, fun j o' hj g' hg' => ?_, h.ctx⟩
  · rw [hw.rest k (by omega)]
    exact h.keep.block k hk hn
  · by_cases e : j = i
    · subst e
      rw [Tr.get_put, if_pos rfl] at hj
      injection hj with hj
      subst hj
      exact ⟨g, obj, hg, hgs, hw.here, hO⟩
    · have hj' := old j o' hj e
      obtain ⟨g', obj', h1, h2, h3, h4⟩ := h.objs j o' hj'
      refine ⟨g', obj', h1, h2, ?_, h4⟩
      rw [hw.rest g' fun e' => e (h.inj j i o' o0 hj' hi (by rw [h1, hg, e']))]
      exact h3
  · obtain ⟨a, ha⟩ := alive j o1 hj
    obtain ⟨b, hb⟩ := alive k o2 hk
    exact h.inj j k a b ha hb e
  · have hn' : j ∉ s.log := fun hm => hn (hl j hm)
    obtain ⟨⟨o2, h1⟩, h2⟩ := h.same j o' hj hn'
    have hne : j ≠ i := fun e => hn (by subst e; exact hil _ hj)
    refine ⟨⟨o2, by rw [Tr.get_put, if_neg hne]; exact h1⟩, fun g' hg' => ?_⟩
    rw [hw.rest g' fun e => hne (h.inj j i o2 o0 h1 hi (by rw [h.ext _ _ hg', hg, e]))]
    exact h2 g' hg'
  · rw [hw.rest k ?_]
    · exact h.far k hk hn
    · rintro rfl
      rcases h.own i o0 hi k hg with h1 | ⟨j, o', h1, h2⟩
      · omega
      · exact hn j o' h1 h2
  · obtain ⟨a, ha⟩ := alive j o' hj
    exact h.own j a ha g' hg'

/-- a new thing, at a name that is free -/
theorem WRel.alloc (h : WRel P w0 A ν s w) {k n' : Nat} {o : AObj} {obj : Obj} (hk : ν k = none) (hn : s.n ≤ n') (hkn : k < n') (hO : ORel P (ν.set k w.heap.size) o obj) :
    WRel P w0 A (ν.set k w.heap.size) ⟨s.h.put k (some o), n', s.log, s.x⟩ (w.alloc obj) := by
  have hle := Nm.le_set hk w.heap.size
  have old : ∀ j o', (s.h.put k (some o)).get j = some o' → j ≠ k → s.h.get j = some o' := fun j o' hj hne => by
    rw [Tr.get_put, if_neg hne] at hj
    exact hj
  have hne : ∀ j o', s.h.get j = some o' → j ≠ k := fun j o' hj e => h.named hk o' (e ▸ hj)
  have νold : ∀ j, j ≠ k → (ν.set k w.heap.size) j = ν j := fun j hj => by simp [Nm.set, hj]
  have heapOld : ∀ g, g < w.heap.size → (w.alloc obj).heap[g]? = w.heap[g]? := fun g hg => Below.heap_alloc _ _ _ hg
  refine ⟨h.keep.trans (Keep.alloc _ _ _), fun i hi => ?_, fun j o' hj => ?_, fun i j o1 o2 hi hj e => ?_, h.ext.trans hle, h.anc, fun j o' hj hn' => ?_, fun g hg hf => ?_, by simp; have := h.big; omega, fun j o' hj g hg => ?_, h.ctx.mono hle⟩
  · have : i ≠ k := by simp at hi; omega
    rw [νold i this]
    exact h.top i (Nat.le_trans hn hi)
  · by_cases e : j = k
    · subst e
      rw [Tr.get_put, if_pos rfl] at hj
      injection hj with hj
      subst hj
      exact ⟨w.heap.size, obj, Nm.set_same _ _ _, h.keep.size, World.alloc_heap_new _ _, hO⟩
    · have hj' := old j o' hj e
      obtain ⟨g', obj', h1, h2, h3, h4⟩ := h.objs j o' hj'
      exact ⟨g', obj', hle _ _ h1, h2, (heapOld g' (h.lt hj' h1)).trans h3, h4.mono hle⟩
  · by_cases ei : i = k <;> by_cases ej : j = k
    · rw [ei, ej]
    · exfalso
      have hj' := old j o2 hj ej
      obtain ⟨g', obj', h1, _⟩ := h.objs j o2 hj'
      have := h.lt hj' h1
      rw [νold j ej, h1, ei, Nm.set_same] at e
      injection e with e
      omega
    · exfalso
      have hi' := old i o1 hi ei
      obtain ⟨g', obj', h1, _⟩ := h.objs i o1 hi'
      have := h.lt hi' h1
      rw [νold i ei, h1, ej, Nm.set_same] at e
      injection e with e
      omega
    · rw [νold i ei, νold j ej] at e
      exact h.inj i j o1 o2 (old i o1 hi ei) (old j o2 hj ej) e
  · obtain ⟨⟨o2, h1⟩, h2⟩ := h.same j o' hj hn'
    refine ⟨⟨o2, by rw [Tr.get_put, if_neg (hne j o2 h1)]; exact h1⟩, fun g hg => ?_⟩
    rw [heapOld g (h.lt h1 (h.ext _ _ hg))]
    exact h2 g hg
  · rw [heapOld g (Nat.lt_of_lt_of_le hg h.big)]
    exact h.far g hg hf
  · by_cases e : j = k
    · subst e
      rw [Nm.set_same] at hg
      injection hg with hg
      subst hg
      exact .inl h.big
    · rw [νold j e] at hg
      exact h.own j o' (old j o' hj e) g hg

/-- a name for a number -/
theorem WRel.name (h : WRel P w0 A ν s w) {k n' : Nat} (hk : ν k = none) (hn : s.n ≤ n') (hkn : k < n') (v : Nat) : WRel P w0 A (ν.set k v) ⟨s.h, n', s.log, s.x⟩ w := by
  have hle := Nm.le_set hk v
  have νold : ∀ j, j ≠ k → (ν.set k v) j = ν j := fun j hj => by simp [Nm.set, hj]
  have hne : ∀ j o', s.h.get j = some o' → j ≠ k := fun j o' hj e => h.named hk o' (e ▸ hj)
  refine ⟨h.keep, fun i hi => ?_, fun j o' hj => ?_, fun i j o1 o2 hi hj e => ?_, h.ext.trans hle, h.anc, h.same, h.far, h.big, fun j o' hj g hg => ?_, h.ctx.mono hle⟩
  · simp only at hi
    rw [νold i (by omega)]
    exact h.top i (by omega)
  · obtain ⟨g', obj', h1, h2, h3, h4⟩ := h.objs j o' hj
    exact ⟨g', obj', hle _ _ h1, h2, h3, h4.mono hle⟩
  · rw [νold i (hne i o1 hi), νold j (hne j o2 hj)] at e
    exact h.inj i j o1 o2 hi hj e
  · rw [νold j (hne j o' hj)] at hg
    exact h.own j o' hj g hg

/-- a thing is looked at no more -/
theorem WRel.kill (h : WRel P w0 A ν s w) (i : Nat) : WRel P w0 A ν (killO s i) w := by
  have old : ∀ j o', (s.h.put i none).get j = some o' → j ≠ i ∧ s.h.get j = some o' := fun j o' hj => by
    rw [Tr.get_put] at hj
    split at hj
    · cases hj
    · exact ⟨‹_›, hj⟩
  refine ⟨h.keep, h.top, fun j o' hj => h.objs j o' (old j o' hj).2, fun a b o1 o2 ha hb => h.inj a b o1 o2 (old a o1 ha).2 (old b o2 hb).2, h.ext, h.anc, fun j o' hj hn => ?_, h.far, h.big, fun j o' hj => h.own j o' (old j o' hj).2, h.ctx⟩
  simp only [killO, List.mem_cons, not_or] at hn
  obtain ⟨⟨o2, h1⟩, h2⟩ := h.same j o' hj hn.2
  exact ⟨⟨o2, by simp only [killO]; rw [Tr.get_put, if_neg hn.1]; exact h1⟩, h2⟩

/-- a block that no name has any more gets a new one -/
theorem WRel.adopt (h : WRel P w0 A ν s w) {k n' g : Nat} {o : AObj} {obj : Obj} (hk : ν k = none) (hn : s.n ≤ n') (hkn : k < n') (hg : w.heap[g]? = some obj) (h0 : w0.heap.size ≤ g) (hno : ∀ i o, s.h.get i = some o → ν i ≠ some g)
    (hown : A.w.heap.size ≤ g ∨ ∃ j o, A.h.get j = some o ∧ A.ν j = some g) (hO : ORel P (ν.set k g) o obj) : WRel P w0 A (ν.set k g) ⟨s.h.put k (some o), n', s.log, s.x⟩ w := by
  have hle := Nm.le_set hk g
  have νold : ∀ j, j ≠ k → (ν.set k g) j = ν j := fun j hj => by simp [Nm.set, hj]
  have old : ∀ j o', (s.h.put k (some o)).get j = some o' → j ≠ k → s.h.get j = some o' := fun j o' hj hne => by
    rw [Tr.get_put, if_neg hne] at hj
    exact hj
  have hne : ∀ j o', s.h.get j = some o' → j ≠ k := fun j o' hj e => h.named hk o' (e ▸ hj)
  refine ⟨h.keep, fun i hi => ?_, fun j o' hj => ?_, fun i j o1 o2 hi hj e => ?_, h.ext.trans hle, h.anc, fun j o' hj hn => ?_, h.far, h.big, fun j o' hj g' hg' => ?_, h.ctx.mono hle⟩
  · simp only at hi
    rw [νold i (by omega)]
    exact h.top i (by omega)
  · by_cases e : j = k
    · subst e
      rw [Tr.get_put, if_pos rfl] at hj
      injection hj with hj
      subst hj
      exact ⟨g, obj, Nm.set_same _ _ _, h0, hg, hO⟩
    · obtain ⟨g', obj', h1, h2, h3, h4⟩ := h.objs j o' (old j o' hj e)
      exact ⟨g', obj', hle _ _ h1, h2, h3, h4.mono hle⟩
  · by_cases ei : i = k <;> by_cases ej : j = k
    · rw [ei, ej]
    · rw [ei, Nm.set_same, νold j ej] at e
      exact absurd e.symm (hno j o2 (old j o2 hj ej))
    · rw [ej, Nm.set_same, νold i ei] at e
      exact absurd e (hno i o1 (old i o1 hi ei))
    · rw [νold i ei, νold j ej] at e
      exact h.inj i j o1 o2 (old i o1 hi ei) (old j o2 hj ej) e
  · obtain ⟨⟨o2, h1⟩, h2⟩ := h.same j o' hj hn
    exact ⟨⟨o2, by rw [Tr.get_put, if_neg (hne j o2 h1)]; exact h1⟩, h2⟩
  · by_cases e : j = k
    · subst e
      rw [Nm.set_same] at hg'
      injection hg' with hg'
      subst hg'
      exact hown
    · rw [νold j e] at hg'
      exact h.own j o' (old j o' hj e) g' hg'

/-! ### cells -/
theorem WRel.blk (h : WRel P w0 A ν s w) {i g : Nat} {l : List AV} {t : TypeId} {c : Option Nat} (hi : s.h.get i = some (.cells l t c)) (hg : ν i = some g) :
    ∃ L R, denL ν l = some L ∧ Blk w g t (L ++ R).toArray ∧ (match c with | none => R = [] | some c => ∃ cap i, ν c = some cap ∧ P.info? t = some i ∧ (L ++ R).length = cap * i.size) := by
  obtain ⟨obj, h1, h2⟩ := h.at_ hi hg
  cases obj <;> simp only [ORel] at h2 <;> try exact h2.elim
  rename_i arr t' fz
  obtain ⟨rfl, hfz, L, R, h3, h4, h5⟩ := h2
  refine ⟨L, R, h3, ?_, ?_⟩
  · exact ⟨fz, by rw [h1, ← h4], by rw [← h4]; exact hfz⟩
  · cases c with
    | none => exact h5
    | some c =>
      obtain ⟨cap, i, h6, h7, h8⟩ := h5
      exact ⟨cap, i, h6, h7, by rw [← h4]; simpa using h8⟩

theorem Upd.put {w : World} {g : Nat} {t : TypeId} {cs' : List Value} (hlt : g < w.heap.size) (off : Nat) (vs : List Value) (hb : Blk (putCells w g off vs) g t cs'.toArray) : ∃ fz, NoFz fz cs'.toArray.size ∧ Upd w g (.cells cs'.toArray t fz) (putCells w g off vs) := by
  obtain ⟨h1, h2, h3, h4⟩ := putCells_same (g := g) vs w off
  obtain ⟨fz, hb, k⟩ := hb
  exact ⟨fz, k, h2, h3, h4, h1, hb, fun k hk => putCells_heap hk vs w off⟩
theorem Upd.obj {w : World} {g : Nat} (obj : Obj) (hlt : g < w.heap.size) : Upd w g obj (w.putObj g obj) :=
  ⟨rfl, rfl, rfl, by simp, World.putObj_heap_same hlt, fun k hk => World.putObj_heap_other hk⟩
end

end Go.Proofs.YtlijlapkhimaoaaGreatDoor
