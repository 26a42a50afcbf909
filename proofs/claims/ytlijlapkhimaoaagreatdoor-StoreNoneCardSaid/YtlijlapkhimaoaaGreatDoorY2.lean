/- The symbolic machine, 2: what is known of a world, and operations in a row. No program in sight. -/
import Derived.Test.YtlijlapkhimaoaaGreatDoorY1
namespace Go.Proofs.YtlijlapkhimaoaaGreatDoor
open Go.RowKit

/-- w' is w with new blocks and writes to the blocks L alone -/
structure Keep (L : List Nat) (w w' : World) : Prop where
  os : w'.os = w.os
  tape : w'.tape = w.tape
  output : w'.output = w.output
  size : w.heap.size ≤ w'.heap.size
  block : ∀ k, k < w.heap.size → k ∉ L → w'.heap[k]? = w.heap[k]?

theorem Keep.refl (L : List Nat) (w : World) : Keep L w w := ⟨rfl, rfl, rfl, Nat.le_refl _, fun _ _ _ => rfl⟩
theorem Keep.trans {L : List Nat} {a b c : World} (h : Keep L a b) (k : Keep L b c) : Keep L a c :=
  ⟨k.os.trans h.os, k.tape.trans h.tape, k.output.trans h.output, Nat.le_trans h.size k.size, fun i hi hn => (k.block i (Nat.lt_of_lt_of_le hi h.size) hn).trans (h.block i hi hn)⟩
theorem Keep.mono {L L' : List Nat} {a b : World} (h : Keep L a b) (hL : ∀ g ∈ L, g ∈ L' ∨ a.heap.size ≤ g) : Keep L' a b :=
  ⟨h.os, h.tape, h.output, h.size, fun i hi hn => h.block i hi fun hm => by
    rcases hL i hm with h1 | h1
    · exact hn h1
    · omega⟩
theorem Keep.drew (L : List Nat) (w : World) : Keep L w w.drew := ⟨rfl, rfl, rfl, Nat.le_refl _, fun _ _ _ => rfl⟩
theorem Keep.alloc (L : List Nat) (w : World) (o : Obj) : Keep L w (w.alloc o) := ⟨rfl, rfl, rfl, by simp, fun k hk _ => Below.heap_alloc _ _ _ hk⟩
theorem Keep.put {L : List Nat} (w : World) {g : Nat} (hg : g ∈ L) (off : Nat) (vs : List Value) : Keep L w (putCells w g off vs) := by
  obtain ⟨h1, h2, h3, h4⟩ := putCells_same (g := g) vs w off
  exact ⟨h2, h3, h4, by omega, fun k _ hn => putCells_heap (fun e => hn (by rw [e]; exact hg)) vs w off⟩
theorem Keep.below {w w' : World} (h : Keep [] w w') : Below w.heap.size w w' := ⟨h.os, h.tape, h.output, h.size, fun k hk => h.block k hk (by simp)⟩
theorem Keep.of_below {L : List Nat} {w w' : World} (h : Below w.heap.size w w') : Keep L w w' := ⟨h.os, h.tape, h.output, h.size, fun k hk _ => h.block k hk⟩

/-- cells that stand for something -/
structure Fact where
  α : Type
  R : Rp α
  cs : List Value
  x : α
def Fact.holds (f : Fact) (w : World) (U : Nat → Prop) : Prop := f.R.at_ w U f.cs f.x

def gs (H : List Bk) : List Nat := H.map (·.g)

/-- cells at an address: of data that are known -/
def Rng (w : World) (U : Nat → Prop) (q : Addr) (cs : List Value) : Prop := U q.block ∧ ∀ j u, cs[j]? = some u → w.cell? (q.add j) = some u

/-- a thing in memory that is known as a whole (a row that grows, a map, ..): its blocks, what is known of it; U: where its data lie -/
structure Ob where
  bs : List Nat
  ok : World → (Nat → Prop) → Prop
  keep : ∀ {w w' : World} {U U' : Nat → Prop}, (∀ b ∈ bs, w'.heap[b]? = w.heap[b]?) → Holds U w w' → (∀ b, U b → b < w.heap.size → U' b) → ok w U → ok w' U'

/-- what is known: E: cells at addresses; F: what stands for what; M: blocks for deferred calls of ranges over functions; R: things; X: blocks of others, that they write; Y: blocks of this call's callees, that they write; K: what others know, whatever the call does to its own blocks -/
structure Fc where
  E : List (Addr × List Value)
  F : List Fact
  M : List Nat := []
  R : List Ob := []
  X : List Nat := []
  Y : List Nat := []
  K : List Nat → World → Prop := fun _ _ => True
/-- the mark that a range over a function leaves among the deferred calls -/
def mark (D : Nat) : Deferred := { target := .collected D, args := #[] }
def obs (R : List Ob) : List Nat := R.flatMap (·.bs)
def Fc.ex (F : Fc) : List Nat := obs F.R ++ (F.X ++ F.Y)
/-- the call's own blocks -/
def priv (H : List Bk) (F : Fc) : List Nat := gs H ++ (obs F.R ++ (F.M ++ F.Y))
/-- what others know stands on while the call writes its own blocks alone -/
def Abide (K : List Nat → World → Prop) : Prop := ∀ Z Z' w w', (∀ g ∈ Z', g < w'.heap.size ∧ (g ∈ Z ∨ w.heap.size ≤ g)) → Keep Z w w' → K Z w → K Z' w'

/-- where data lie: in D, or in new blocks, not in those that are written -/
def dm (D : Nat → Prop) (w0 : World) (H : List Bk) (F : Fc) (w : World) : Nat → Prop := dom D w0.heap.size (gs H ++ F.ex) w

/-- What is known of the world w: w0 is the world at the call's beginning, L0 the blocks of it that the call may write; H: blocks known whole (the call's own, or of L0); F: the rest -/
structure Inv (D : Nat → Prop) (w0 : World) (L0 : List Nat) (H : List Bk) (F : Fc) (w : World) : Prop where
  has : ∀ b ∈ H, Blk w b.g b.t b.cs.toArray
  nodup : (gs H ++ obs F.R).Nodup ∧ ∀ g ∈ F.X ++ F.Y, g ∉ gs H ++ obs F.R
  keep : Keep L0 w0 w
  own : ∀ g ∈ gs H ++ F.ex, w0.heap.size ≤ g ∨ g ∈ L0
  lt : ∀ g ∈ gs H ++ F.ex, g < w.heap.size
  facts : ∀ f ∈ F.F, f.holds w (dm D w0 H F w)
  rngs : ∀ e ∈ F.E, Rng w (dm D w0 H F w) e.1 e.2
  marks : F.M.Nodup ∧ ∀ k ∈ F.M, w0.heap.size ≤ k ∧ w.heap[k]? = some (.deferred (some [])) ∧ k ∉ gs H ++ F.ex
  things : ∀ o ∈ F.R, o.ok w (dm D w0 H F w)
  known : F.K (priv H F) w ∧ Abide F.K

theorem Holds.of_keep {U : Nat → Prop} {w w' : World} {L : List Nat} (hk : Keep L w w') (hU : ∀ b, U b → b < w.heap.size → b ∉ L) : Holds U w w' := fun p u hp hc => by
  have hlt := World.block_lt_of_cell? w _ hc
  rw [World.cell?_of_block (w := w) (hk.block p.block hlt (hU _ hp hlt))]
  exact hc
theorem Rng.keep {U U' : Nat → Prop} {w w' : World} {q : Addr} {cs : List Value} (h : Rng w U q cs) (hl : q.block < w.heap.size) (hh : Holds U w w') (hU : ∀ b, U b → b < w.heap.size → U' b) : Rng w' U' q cs :=
  ⟨hU _ h.1 hl, fun j u hj => hh _ u (by rw [block_of_add]; exact h.1) (h.2 j u hj)⟩

section
variable {D : Nat → Prop} {w0 w w' : World} {L0 : List Nat} {H H' : List Bk} {F : Fc}
theorem dm_lt {b : Nat} (h : dm D w0 H F w b) : b < w.heap.size := h.1
theorem Inv.next (h : Inv D w0 L0 H F w) (hk : Keep (gs H) w w') (hH : ∀ b ∈ H', Blk w' b.g b.t b.cs.toArray) (hn : (gs H').Nodup) (hsub : ∀ g ∈ gs H', g ∈ gs H ∨ w.heap.size ≤ g) : Inv D w0 L0 H' F w' := by
  have hex : ∀ g ∈ F.ex, g ∉ gs H := fun g hg hm => by
    rcases List.mem_append.1 hg with hg | hg
    · exact (List.nodup_append.1 h.nodup.1).2.2 g hm g hg rfl
    · exact h.nodup.2 g hg (List.mem_append_left _ hm)
  have hex' : ∀ g ∈ F.ex, g ∉ gs H' := fun g hg hm => by
    rcases hsub g hm with h1 | h1
    · exact hex g hg h1
    · have := h.lt g (List.mem_append_right _ hg)
      omega
  have hho : Holds (dm D w0 H F w) w w' := Holds.of_keep hk fun b hb _ hm => hb.2.2 (List.mem_append_left _ hm)
  have hdm : ∀ b, dm D w0 H F w b → b < w.heap.size → dm D w0 H' F w' b := fun b hb _ => ⟨Nat.lt_of_lt_of_le hb.1 hk.size, hb.2.1, fun hm => by
    rcases List.mem_append.1 hm with hm | hm
    · rcases hsub b hm with h1 | h1
      · exact hb.2.2 (List.mem_append_left _ h1)
      · have := hb.1
        omega
    · exact hb.2.2 (List.mem_append_right _ hm)⟩
  refine ⟨hH, ?_, ⟨hk.os.trans h.keep.os, hk.tape.trans h.keep.tape, hk.output.trans h.keep.output, Nat.le_trans h.keep.size hk.size, fun k hlt hnot => ?_⟩, fun g hg => ?_, fun g hg => ?_, fun f hf => f.R.keep hho hdm (h.facts f hf), fun e he => (h.rngs e he).keep (h.rngs e he).1.1 hho hdm, ⟨h.marks.1, fun k hk0 => ?_⟩, fun o ho => o.keep (fun b hb => ?_) hho hdm (h.things o ho), h.known.2 _ _ w w' (fun g hg => ?_) (hk.mono fun g hg => .inl (List.mem_append_left _ hg)) h.known.1, h.known.2⟩
  · refine ⟨?_, fun g hg hm => ?_⟩
    · rw [List.nodup_append]
      exact ⟨hn, (List.nodup_append.1 h.nodup.1).2.1, fun x hx y hy e => hex' y (List.mem_append_left _ hy) (e ▸ hx)⟩
    · rcases List.mem_append.1 hm with hm | hm
      · exact hex' g (List.mem_append_right _ hg) hm
      · exact h.nodup.2 g hg (List.mem_append_right _ hm)
  · rw [← h.keep.block k hlt hnot]
    refine hk.block k (Nat.lt_of_lt_of_le hlt h.keep.size) fun hm => ?_
    rcases h.own k (List.mem_append_left _ hm) with h1 | h1
    · omega
    · exact hnot h1
  · rcases List.mem_append.1 hg with hg | hg
    · rcases hsub g hg with h1 | h1
      · exact h.own g (List.mem_append_left _ h1)
      · exact .inl (Nat.le_trans h.keep.size h1)
    · exact h.own g (List.mem_append_right _ hg)
  · rcases List.mem_append.1 hg with hg | hg
    · obtain ⟨b, hb, rfl⟩ := List.mem_map.1 hg
      exact (hH b hb).lt
    · exact Nat.lt_of_lt_of_le (h.lt g (List.mem_append_right _ hg)) hk.size
  · obtain ⟨h1, h2, h3⟩ := h.marks.2 k hk0
    have hlt : k < w.heap.size := (Array.getElem?_eq_some_iff.1 h2).1
    refine ⟨h1, ?_, fun hm => ?_⟩
    · rw [hk.block k hlt fun hm => h3 (List.mem_append_left _ hm)]
      exact h2
    · rcases List.mem_append.1 hm with hm | hm
      · rcases hsub k hm with h5 | h5
        · exact h3 (List.mem_append_left _ h5)
        · omega
      · exact h3 (List.mem_append_right _ hm)
  · have hb' : b ∈ F.ex := List.mem_append_left _ (List.mem_flatMap.2 ⟨o, ho, hb⟩)
    exact hk.block b (h.lt b (List.mem_append_right _ hb')) (hex b hb')
  · rcases List.mem_append.1 hg with hg | hg
    · refine ⟨?_, ?_⟩
      · obtain ⟨b, hb, rfl⟩ := List.mem_map.1 hg
        exact (hH b hb).lt
      · rcases hsub g hg with h1 | h1
        · exact .inl (List.mem_append_left _ h1)
        · exact .inr h1
    · refine ⟨Nat.lt_of_lt_of_le ?_ hk.size, .inl (List.mem_append_right _ hg)⟩
      rcases List.mem_append.1 hg with hg | hg
      · exact h.lt g (List.mem_append_right _ (List.mem_append_left _ hg))
      · rcases List.mem_append.1 hg with hg | hg
        · exact (Array.getElem?_eq_some_iff.1 (h.marks.2 g hg).2.1).1
        · exact h.lt g (List.mem_append_right _ (List.mem_append_right _ (List.mem_append_right _ hg)))
theorem Inv.drew (h : Inv D w0 L0 H F w) : Inv D w0 L0 H F w.drew := h.next (Keep.drew _ _) h.has (List.nodup_append.1 h.nodup.1).1 (fun _ hg => .inl hg)
theorem Inv.new (h : Inv D w0 L0 H F w) (t : TypeId) (cs : List Value) : Inv D w0 L0 (H ++ [⟨w.heap.size, t, cs⟩]) F (w.alloc (.cells cs.toArray t)) := by
  refine h.next (Keep.alloc _ _ _) (fun b hb => ?_) ?_ (fun g hg => ?_)
  · rcases List.mem_append.1 hb with hb | hb
    · exact (h.has b hb).alloc _
    · simp at hb
      subst hb
      exact Blk.new _ _ _
  · simp only [gs, List.map_append, List.map_cons, List.map_nil]
    rw [List.nodup_append]
    refine ⟨(List.nodup_append.1 h.nodup.1).1, by simp, fun x hx y hy => ?_⟩
    simp at hy
    subst hy
    have := h.lt x (List.mem_append_left _ hx)
    omega
  · simp only [gs, List.map_append, List.map_cons, List.map_nil] at hg
    rcases List.mem_append.1 hg with hg | hg
    · exact .inl hg
    · simp at hg
      subst hg
      exact .inr (Nat.le_refl _)
theorem gs_set {i : Nat} {b : Bk} (hi : H[i]? = some b) (cs : List Value) : gs (H.set i ⟨b.g, b.t, cs⟩) = gs H := by
  unfold gs
  rw [List.map_set]
  apply List.ext_getElem?
  intro j
  rw [List.getElem?_set]
  split
  · rename_i e
    subst e
    split
    · simp [hi]
    · rename_i hlt
      simp at hlt
      rw [List.getElem?_eq_none hlt] at hi
      cases hi
  · rfl
theorem Inv.ndH (h : Inv D w0 L0 H F w) : (gs H).Nodup := (List.nodup_append.1 h.nodup.1).1
theorem Inv.set (h : Inv D w0 L0 H F w) {i : Nat} {b : Bk} (hi : H[i]? = some b) {off : Nat} {vs : List Value} {cs : List Value} (hb : Blk (putCells w b.g off vs) b.g b.t cs.toArray) : Inv D w0 L0 (H.set i ⟨b.g, b.t, cs⟩) F (putCells w b.g off vs) := by
  have hm : b ∈ H := List.mem_of_getElem? hi
  refine h.next (Keep.put _ (List.mem_map.2 ⟨b, hm, rfl⟩) _ _) (fun c hc => ?_) (by rw [gs_set hi]; exact h.ndH) (fun g hg => .inl (by rw [gs_set hi] at hg; exact hg))
  obtain ⟨j, hj⟩ := List.getElem?_of_mem hc
  rw [List.getElem?_set] at hj
  split at hj
  · split at hj
    · injection hj with hj
      subst hj
      exact hb
    · cases hj
  · rename_i hne
    have hcm : c ∈ H := List.mem_of_getElem? hj
    have hcg : c.g ≠ b.g := fun e => hne (by
      have h1 : (gs H)[i]? = some b.g := by simp [gs, hi]
      have h2 : (gs H)[j]? = some c.g := by simp [gs, hj]
      exact (List.getElem?_inj (List.getElem?_eq_some_iff.1 h1).1 h.ndH).1 (by rw [h1, h2, e]))
    exact (h.has c hcm).move (putCells_heap hcg vs w off)
/-- more, or less, is told of the data -/
theorem Inv.ctx (h : Inv D w0 L0 H F w) {E : List (Addr × List Value)} {Fs : List Fact} (h1 : ∀ f ∈ Fs, f.holds w (dm D w0 H F w)) (h2 : ∀ e ∈ E, Rng w (dm D w0 H F w) e.1 e.2) : Inv D w0 L0 H { F with E := E, F := Fs } w :=
  ⟨h.has, h.nodup, h.keep, h.own, h.lt, h1, h2, h.marks, h.things, h.known⟩
theorem Inv.add (h : Inv D w0 L0 H F w) {f : Fact} (hf : f.holds w (dm D w0 H F w)) : Inv D w0 L0 H { F with F := f :: F.F } w :=
  h.ctx (fun k hk => by
    rcases List.mem_cons.1 hk with rfl | hk
    · exact hf
    · exact h.facts k hk) h.rngs
theorem Inv.rng (h : Inv D w0 L0 H F w) {q : Addr} {cs : List Value} (hf : Rng w (dm D w0 H F w) q cs) : Inv D w0 L0 H { F with E := (q, cs) :: F.E } w :=
  h.ctx h.facts (fun k hk => by
    rcases List.mem_cons.1 hk with rfl | hk
    · exact hf
    · exact h.rngs k hk)
theorem Inv.dropFE (h : Inv D w0 L0 H F w) (n m : Nat) : Inv D w0 L0 H { F with E := F.E.drop m, F := F.F.drop n } w :=
  h.ctx (fun f hf => h.facts f (List.mem_of_mem_drop hf)) (fun e he => h.rngs e (List.mem_of_mem_drop he))
end

/-! ### A frame of which some slots are known -/
def look (T : List (Nat × Value)) (i : Nat) : Option Value :=
  match T with
  | [] => none
  | p :: T => match Nat.beq p.1 i with
    | true => some p.2
    | false => look T i

def drops (T : List (Nat × Value)) (i : Nat) : List (Nat × Value) :=
  match T with
  | [] => []
  | p :: T => match Nat.beq p.1 i with
    | true => drops T i
    | false => p :: drops T i

def putT (T : List (Nat × Value)) (d : Option Nat) (v : Value) : List (Nat × Value) :=
  match d with
  | none => T
  | some d => (d, v) :: drops T d

def okDst (n : Nat) (d : Option Nat) : Bool :=
  match d with
  | none => true
  | some d => Nat.blt d n

structure Knows (n : Nat) (M : List Nat) (T : List (Nat × Value)) (a : Act) : Prop where
  size : a.tmps.size = n
  defers : a.defers = M.map mark
  slots : ∀ i v, look T i = some v → a.tmps[i]? = some v

theorem look_drops {T : List (Nat × Value)} {i j : Nat} : look (drops T j) i = if i = j then none else look T i := by
  induction T with
  | nil => simp [drops, look]
  | cons p T ih =>
    unfold drops
    cases h : Nat.beq p.1 j with
    | true =>
      have e := Nat.eq_of_beq_eq_true h
      simp only [ih]
      split
      · rfl
      · rename_i hn
        have : Nat.beq p.1 i = false := by
          cases h2 : Nat.beq p.1 i with
          | false => rfl
          | true => exact absurd ((Nat.eq_of_beq_eq_true h2).symm.trans e) hn
        simp [look, this]
    | false =>
      simp only [look]
      cases h2 : Nat.beq p.1 i with
      | true =>
        have e := Nat.eq_of_beq_eq_true h2
        have : i ≠ j := fun hj => by
          rw [← hj, ← e] at h
          simp at h
        simp [this]
      | false => exact ih

theorem Knows.put {n : Nat} {M : List Nat} {T : List (Nat × Value)} {a : Act} (h : Knows n M T a) {d : Option Nat} (hd : okDst n d = true) (v : Value) : Knows n M (putT T d v) (a.put d v) := by
  cases d with
  | none => exact h
  | some d =>
    have hlt : d < n := by simpa [okDst] using hd
    refine ⟨by simp [Act.put, h.size], h.defers, fun i u hu => ?_⟩
    simp only [putT, look] at hu
    simp only [Act.put, Array.getElem?_setIfInBounds]
    cases hb : Nat.beq d i with
    | true =>
      have e := Nat.eq_of_beq_eq_true hb
      rw [hb] at hu
      subst e
      simp [h.size, hlt]
      simpa using hu
    | false =>
      rw [hb] at hu
      simp only [look_drops] at hu
      have hne : d ≠ i := fun e => by subst e; simp at hb
      rw [if_neg (fun e => hne e.symm)] at hu
      rw [if_neg hne]
      exact h.slots i u hu

def subT : List (Nat × Value) → List (Nat × Value) → Prop := fun T T' => ∀ i v, look T' i = some v → look T i = some v
theorem Knows.sub {n : Nat} {M : List Nat} {T T' : List (Nat × Value)} {a : Act} (h : Knows n M T a) (hs : subT T T') : Knows n M T' a := ⟨h.size, h.defers, fun i v hv => h.slots i v (hs i v hv)⟩

def evT (T : List (Nat × Value)) : Operand → Option Value
  | .tmp t => look T t
  | .const v => some v
  | .global g => some (.pointer (some ⟨g, 0, none⟩))
  | .func f => some (.func (.func f) #[] #[])
def rho (T : List (Nat × Value)) (x : Operand) : Value := (evT T x).getD undef
def knowsAll (T : List (Nat × Value)) (o : Op) : Bool := o.operands.toList.all fun x => (evT T x).isSome

theorem Knows.eval {n : Nat} {M : List Nat} {T : List (Nat × Value)} {a : Act} (h : Knows n M T a) {x : Operand} (hx : (evT T x).isSome = true) : a.eval x = rho T x := by
  cases x with
  | tmp t =>
    change (look T t).isSome = true at hx
    show _ = (look T t).getD undef
    cases hl : look T t with
    | none => rw [hl] at hx; cases hx
    | some v =>
      have := h.slots t v hl
      simp [Act.eval, this]
  | const v => rfl
  | global g => rfl
  | func f => rfl
theorem Knows.evals {n : Nat} {M : List Nat} {T : List (Nat × Value)} {a : Act} (h : Knows n M T a) {o : Op} (hx : knowsAll T o = true) : ∀ x ∈ o.operands, a.eval x = rho T x := fun x hm => by
  unfold knowsAll at hx
  rw [List.all_eq_true] at hx
  exact h.eval (hx x (by simpa using hm))

/-- is it wanted? (none: not known) -/
def wantedT (ops : Array Oper) (T : List (Nat × Value)) (o : Oper) : Option Bool :=
  match o.guard with
  | none => some true
  | some (j, want) =>
    match (ops[j]?).bind (·.dst) with
    | none => none
    | some d =>
      match look T d with
      | some (.bool b) => some (b == want)
      | some (.tuple _) => some false
      | _ => none

theorem Knows.wanted {n : Nat} {M : List Nat} {T : List (Nat × Value)} {a : Act} (h : Knows n M T a) {ops : Array Oper} {o : Oper} {b : Bool} (hb : wantedT ops T o = some b) : Region.wanted o (yielded ops a.tmps) = b := by
  unfold wantedT at hb
  unfold Region.wanted
  cases hg : o.guard with
  | none => rw [hg] at hb; simpa using hb
  | some p =>
    obtain ⟨j, want⟩ := p
    rw [hg] at hb
    simp only at hb ⊢
    cases hd : (ops[j]?).bind (·.dst) with
    | none => rw [hd] at hb; cases hb
    | some d =>
      rw [hd] at hb
      simp only at hb
      cases hl : look T d with
      | none => rw [hl] at hb; cases hb
      | some v =>
        rw [hl] at hb
        have hs := h.slots d v hl
        cases v <;> simp only [reduceCtorEq, Option.some.injEq] at hb
        · unfold yielded
          rw [hd]
          simp [hs, ← hb]
        · unfold yielded
          rw [hd]
          simp [hs, ← hb]

/-! ### One operation -/
def isSel : Op → Bool
  | .select _ _ => true
  | .defer _ => true
  | _ => false
theorem notSel {o : Op} (h : isSel o = false) : (∀ cs b, o ≠ .select cs b) ∧ ∀ c, o ≠ .defer c := ⟨fun cs b e => (by rw [e] at h; cases h), fun c e => (by rw [e] at h; cases h)⟩

/-- what one operation does: 'h': which block a load or store goes to; 'fr': the numbers of blocks to come. The two rows at the end must be one: where the pointers point, and where they were said to. -/
def stepT (P : Program) (E : List (Addr × List Value)) (n : Nat) (o : Oper) (h : Nat) (T : List (Nat × Value)) (H : List Bk) (fr : List Nat) : Option (List (Nat × Value) × List Bk × List Nat × List Value × List Value × List Prop) :=
  match knowsAll T o.op && okDst n o.dst && !isSel o.op with
  | false => none
  | true =>
    match o.op with
    | .load t x =>
      match Nat.blt h 1000 with
      | true =>
        match H[h]?, rho T x with
        | some b, .pointer (some ad) =>
          match loadOf P t b.cs ad.off with
          | some v => some (putT T o.dst v, H, fr, [.pointer (some ad)], [.pointer (some ⟨b.g, ad.off, none⟩)], [])
          | none => none
        | _, _ => none
      | false =>
        match E[(h - 1000) / 100]?, rho T x with
        | some e, .pointer (some ad) =>
          match loadOf P t e.2 ((h - 1000) % 100) with
          | some v => some (putT T o.dst v, H, fr, [.pointer (some ad)], [.pointer (some (e.1.add ((h - 1000) % 100)))], [])
          | none => none
        | _, _ => none
    | .store t x y =>
      match H[h]?, rho T x with
      | some b, .pointer (some ad) =>
        match storeOf P t b.cs ad.off (rho T y) with
        | some cs => some (putT T o.dst undef, H.set h ⟨b.g, b.t, cs⟩, fr, [.pointer (some ad)], [.pointer (some ⟨b.g, ad.off, none⟩)], [])
        | none => none
      | _, _ => none
    | .alloc _ | .box _ _ | .buildSlice _ _ _ =>
      match newRun P (execOp (rho T) o), fr with
      | some (.cells cs t (0, 0), k), g :: fr =>
        match k g with
        | some (.value v) => some (putT T o.dst v, H ++ [⟨g, t, cs.toList⟩], fr, [], [], [])
        | _ => none
      | _, _ => none
    | _ =>
      match special P (rho T) o.op with
      | some (v, ps) => some (putT T o.dst v, H, fr, [], [], ps)
      | none =>
        match pureRun P (execOp (rho T) o) with
        | some (.value v) => some (putT T o.dst v, H, fr, [], [], [])
        | _ => none

section
variable {r' : Option Nat} {P : Program} {ops : Array Oper} {Q : Exit → Act → World → Prop} {D : Nat → Prop} {w0 w : World} {L0 : List Nat} {H H' : List Bk} {F : Fc} {N : Nat} {M : List Nat} {T T' : List (Nat × Value)}

theorem stepT_len {E : List (Addr × List Value)} {o : Oper} {h : Nat} {fr fr' : List Nat} {l r : List Value} {ob : List Prop} (hx : stepT P E N o h T H fr = some (T', H', fr', l, r, ob)) : l.length = r.length := by
  unfold stepT at hx
  split at hx
  · cases hx
  · split at hx
    all_goals
      repeat' (first | (cases hx; done) | split at hx)
    all_goals
      first
      | (cases hx; done)
      | (simp only [Option.some.injEq, Prod.mk.injEq] at hx; obtain ⟨_, _, _, rfl, rfl, _⟩ := hx; simp only [List.length_cons, List.length_nil])

theorem run_loadCellsAt {q : Addr} {cs : List Value} {off : Nat} (hc : ∀ j u, cs[j]? = some u → w.cell? (q.add j) = some u) : ∀ (n i : Nat) (acc : Array Value), off + i + n ≤ cs.length → (loadCellsFrom (q.add off) i n acc).run P w = .ok (acc ++ ((cs.drop (off + i)).take n).toArray) w
  | 0, i, acc, _ => by simp [loadCellsFrom, pure, Sem.run]
  | n + 1, i, acc, h => by
    have hl : off + i < cs.length := by omega
    have e : cs.drop (off + i) = cs[off + i] :: cs.drop (off + i + 1) := List.drop_eq_getElem_cons hl
    show (Sem.bind (load _) _).run P w = _
    unfold load
    simp only [Sem.bind, Sem.run]
    rw [add_of_add, hc (off + i) _ (List.getElem?_eq_getElem hl)]
    have := run_loadCellsAt (off := off) hc n (i + 1) (acc.push cs[off + i]) (by omega)
    simp only []
    rw [this, e, List.take_succ_cons, ← Nat.add_assoc]
    simp

theorem run_loadVarAt {q : Addr} {cs : List Value} (hc : ∀ j u, cs[j]? = some u → w.cell? (q.add j) = some u) {t : TypeId} {off : Nat} {v : Value} (h : loadOf P t cs off = some v) : (loadVar t (q.add off)).run P w = .ok v w := by
  unfold loadOf at h
  show (Sem.bind (Sem.bind (underlying t) _) _).run P w = _
  rw [run_bind, run_bind]
  cases hu : P.underlying t with
  | none => rw [hu] at h; cases h
  | some d =>
    rw [run_underlying hu]
    rw [hu] at h
    have agg : (∀ i, P.info? t = some i → ((cs.drop off).take i.size).length = i.size → some (Value.agg ((cs.drop off).take i.size).toArray) = some v →
        (Sem.bind (sizeOf t) fun n => Sem.bind (loadCells (q.add off) n) fun c => Sem.pure (Value.agg c)).run P w = .ok v w) := fun i hi hl hv => by
      rw [run_bind, run_sizeOf hi]
      show (Sem.bind (loadCells (q.add off) i.size) _).run P w = _
      rw [run_bind]
      unfold loadCells
      by_cases h0 : i.size = 0
      · rw [h0] at hv ⊢
        simp at hv
        subst hv
        simp [loadCellsFrom, pure, Sem.run]
      · rw [run_loadCellsAt hc (off := off) i.size 0 #[] (by simp at hl; omega)]
        simp at hv
        simp [Sem.run, ← hv]
    cases d <;> simp only at h ⊢
    case struct fs =>
      cases hi : P.info? t with
      | none => rw [hi] at h; cases h
      | some i =>
        rw [hi] at h
        simp only at h
        split at h
        · exact agg i hi ‹_› h
        · cases h
    case array n e =>
      cases hi : P.info? t with
      | none => rw [hi] at h; cases h
      | some i =>
        rw [hi] at h
        simp only at h
        split at h
        · exact agg i hi ‹_› h
        · cases h
    all_goals
      show (load _).run P w = _
      unfold load
      simp only [Sem.run]
      rw [hc off v h]

def memKind : Op → Nat
  | .load _ _ => 1
  | .store _ _ _ => 2
  | .alloc _ => 3
  | .box _ _ => 3
  | .buildSlice _ _ _ => 3
  | _ => 0

theorem stepT_known {E : List (Addr × List Value)} {o : Oper} {h : Nat} {fr fr' : List Nat} {l r : List Value} {ob : List Prop} (hx : stepT P E N o h T H fr = some (T', H', fr', l, r, ob)) : knowsAll T o.op = true ∧ okDst N o.dst = true ∧ isSel o.op = false := by
  unfold stepT at hx
  split at hx
  · cases hx
  · rename_i hc
    simp only [Bool.and_eq_true, Bool.not_eq_true'] at hc
    exact ⟨hc.1.1, hc.1.2, hc.2⟩

theorem stepT_pure {E : List (Addr × List Value)} {o : Oper} {h : Nat} {fr fr' : List Nat} {l r : List Value} {ob : List Prop} (hm : memKind o.op = 0) (hx : stepT P E N o h T H fr = some (T', H', fr', l, r, ob)) (hob : AllP ob) :
    H' = H ∧ fr' = fr ∧ l = [] ∧ r = [] ∧ ∃ v, T' = putT T o.dst v ∧ ∀ w, (execOp (rho T) o).run P w = .ok (.value v) w := by
  unfold stepT at hx
  split at hx
  · cases hx
  · split at hx
    · rename_i hop; rw [hop] at hm; cases hm
    · rename_i hop; rw [hop] at hm; cases hm
    · rename_i hop; rw [hop] at hm; cases hm
    · rename_i hop; rw [hop] at hm; cases hm
    · rename_i hop; rw [hop] at hm; cases hm
    · split at hx
      · rename_i v ps hv
        simp only [Option.some.injEq, Prod.mk.injEq] at hx
        obtain ⟨rfl, rfl, rfl, rfl, rfl, rfl⟩ := hx
        exact ⟨rfl, rfl, rfl, rfl, v, rfl, fun w => special_sound hv hob⟩
      · split at hx
        · rename_i v hv
          simp only [Option.some.injEq, Prod.mk.injEq] at hx
          obtain ⟨rfl, rfl, rfl, rfl, rfl, _⟩ := hx
          exact ⟨rfl, rfl, rfl, rfl, v, rfl, fun w => pureRun_sound _ hv w⟩
        · cases hx

/-- a load: from block h, or from data -/
theorem stepT_load {E : List (Addr × List Value)} {o : Oper} {h : Nat} {fr fr' : List Nat} {l r : List Value} {ob : List Prop} (hm : memKind o.op = 1) (hx : stepT P E N o h T H fr = some (T', H', fr', l, r, ob)) (hlr : l = r) :
    H' = H ∧ fr' = fr ∧ ∃ v, T' = putT T o.dst v ∧ ((h < 1000 ∧ ∃ b, H[h]? = some b ∧ ∀ w, Blk w b.g b.t b.cs.toArray → (execOp (rho T) o).run P w = .ok (.value v) w) ∨
      (∃ e ∈ E, ∀ w, (∀ j u, e.2[j]? = some u → w.cell? (e.1.add j) = some u) → (execOp (rho T) o).run P w = .ok (.value v) w)) := by
  unfold stepT at hx
  split at hx
  · cases hx
  · split at hx
    · rename_i t x hop
      have e : execOp (rho T) o = (Instr.loadAt t (rho T x)).bind fun v => pure (.value v) := by unfold execOp; rw [hop]; rfl
      split at hx
      · rename_i hlt
        split at hx
        · rename_i b ad hb ha
          split at hx
          · rename_i v hv
            simp only [Option.some.injEq, Prod.mk.injEq] at hx
            obtain ⟨rfl, rfl, rfl, rfl, rfl, _⟩ := hx
            simp only [List.cons.injEq, Value.pointer.injEq, Option.some.injEq, and_true] at hlr
            refine ⟨rfl, rfl, v, rfl, .inl ⟨by simpa using hlt, b, hb, fun w hbk => ?_⟩⟩
            have e2 : (Instr.loadAt t (rho T x)).run P w = .ok v w := by
              rw [ha]
              show (Sem.bind (Instr.sureAddr _) _).run P w = _
              rw [run_bind]
              show (loadVar t ad).run P w = _
              rw [hlr]
              exact run_loadVar hbk hv
            rw [e, run_bind, e2]
            rfl
          · cases hx
        · cases hx
      · split at hx
        · rename_i en ad hb ha
          split at hx
          · rename_i v hv
            simp only [Option.some.injEq, Prod.mk.injEq] at hx
            obtain ⟨rfl, rfl, rfl, rfl, rfl, _⟩ := hx
            simp only [List.cons.injEq, Value.pointer.injEq, Option.some.injEq, and_true] at hlr
            refine ⟨rfl, rfl, v, rfl, .inr ⟨en, List.mem_of_getElem? hb, fun w hc => ?_⟩⟩
            have e2 : (Instr.loadAt t (rho T x)).run P w = .ok v w := by
              rw [ha]
              show (Sem.bind (Instr.sureAddr _) _).run P w = _
              rw [run_bind]
              show (loadVar t ad).run P w = _
              rw [hlr]
              exact run_loadVarAt hc hv
            rw [e, run_bind, e2]
            rfl
          · cases hx
        · cases hx
    · rename_i hop; rw [hop] at hm; cases hm
    · rename_i hop; rw [hop] at hm; cases hm
    · rename_i hop; rw [hop] at hm; cases hm
    · rename_i hop; rw [hop] at hm; cases hm
    · rename_i h1 h2 h3 h4 h5
      exfalso
      cases hop : o.op <;> rw [hop] at hm <;> first | (cases hm; done) | exact h1 _ _ hop

theorem stepT_store {E : List (Addr × List Value)} {o : Oper} {h : Nat} {fr fr' : List Nat} {l r : List Value} {ob : List Prop} (hm : memKind o.op = 2) (hx : stepT P E N o h T H fr = some (T', H', fr', l, r, ob)) (hlr : l = r) (hI : Inv D w0 L0 H F w) :
    fr' = fr ∧ T' = putT T o.dst undef ∧ ∃ b cs off vs, H[h]? = some b ∧ H' = H.set h ⟨b.g, b.t, cs⟩ ∧ (execOp (rho T) o).run P w = .ok .skip (putCells w b.g off vs) ∧ Blk (putCells w b.g off vs) b.g b.t cs.toArray := by
  unfold stepT at hx
  split at hx
  · cases hx
  · split at hx
    · rename_i hop; rw [hop] at hm; cases hm
    · rename_i t x y hop
      split at hx
      · rename_i b ad hb ha
        split at hx
        · rename_i cs hv
          simp only [Option.some.injEq, Prod.mk.injEq] at hx
          obtain ⟨rfl, rfl, rfl, rfl, rfl, _⟩ := hx
          simp only [List.cons.injEq, Value.pointer.injEq, Option.some.injEq, and_true] at hlr
          have hbk := hI.has b (List.mem_of_getElem? hb)
          obtain ⟨r1, r2⟩ := run_storeVar (P := P) hbk hv
          refine ⟨rfl, rfl, b, cs, _, _, hb, rfl, ?_, r2⟩
          have e : execOp (rho T) o = (Instr.storeAt t (rho T x) (rho T y)).bind fun _ => pure .skip := by unfold execOp; rw [hop]; rfl
          have e2 : (Instr.storeAt t (rho T x) (rho T y)).run P w = .ok () (putCells w b.g ad.off (rho T y).cells.toList) := by
            rw [ha]
            show (Sem.bind (Instr.sureAddr _) _).run P w = _
            rw [run_bind]
            show (storeVar t ad (rho T y)).run P w = _
            rw [hlr]
            exact r1
          rw [e, run_bind, e2]
          rfl
        · cases hx
      · cases hx
    · rename_i hop; rw [hop] at hm; cases hm
    · rename_i hop; rw [hop] at hm; cases hm
    · rename_i hop; rw [hop] at hm; cases hm
    · rename_i h1 h2 h3 h4 h5
      exfalso
      cases hop : o.op <;> rw [hop] at hm <;> first | (cases hm; done) | exact h2 _ _ _ hop

theorem stepT_new {E : List (Addr × List Value)} {o : Oper} {h n : Nat} {fr' : List Nat} {l r : List Value} {ob : List Prop} (hm : memKind o.op = 3) (hx : stepT P E N o h T H (List.range' w.heap.size n) = some (T', H', fr', l, r, ob)) :
    ∃ v t cs m, n = m + 1 ∧ fr' = List.range' (w.heap.size + 1) m ∧ T' = putT T o.dst v ∧ H' = H ++ [⟨w.heap.size, t, cs⟩] ∧ (execOp (rho T) o).run P w = .ok (.value v) (w.alloc (.cells cs.toArray t)) := by
  have new_ : (match newRun P (execOp (rho T) o), List.range' w.heap.size n with
      | some (.cells cs t (0, 0), k), g :: fr =>
        match k g with
        | some (.value v) => some (putT T o.dst v, H ++ [⟨g, t, cs.toList⟩], fr, ([] : List Value), ([] : List Value), ([] : List Prop))
        | _ => none
      | _, _ => none) = some (T', H', fr', l, r, ob) → ∃ v t cs m, n = m + 1 ∧ fr' = List.range' (w.heap.size + 1) m ∧ T' = putT T o.dst v ∧ H' = H ++ [⟨w.heap.size, t, cs⟩] ∧ (execOp (rho T) o).run P w = .ok (.value v) (w.alloc (.cells cs.toArray t)) := fun hx => by
      split at hx
      · rename_i cs t k g fr hnew hfr
        cases n with
        | zero => simp at hfr
        | succ n =>
          rw [List.range'_succ] at hfr
          injection hfr with hg hfr
          subst hg hfr
          split at hx
          · rename_i v hv
            simp only [Option.some.injEq, Prod.mk.injEq] at hx
            obtain ⟨rfl, rfl, rfl, _, _, _⟩ := hx
            exact ⟨v, t, cs.toList, n, rfl, rfl, rfl, rfl, by rw [newRun_sound _ hnew hv]⟩
          · cases hx
      · cases hx
  unfold stepT at hx
  split at hx
  · cases hx
  · split at hx
    · rename_i hop; rw [hop] at hm; cases hm
    · rename_i hop; rw [hop] at hm; cases hm
    · exact new_ hx
    · exact new_ hx
    · exact new_ hx
    · rename_i h1 h2 h3 h4 h5
      exfalso
      cases hop : o.op <;> rw [hop] at hm <;> first | (cases hm; done) | exact h3 _ hop | exact h4 _ _ hop | exact h5 _ _ _ hop

theorem memKind_le (o : Op) : memKind o ≤ 3 := by cases o <;> simp [memKind]

/-- one operation that is wanted, from whatever world of which Inv holds -/
theorem stepT_sound {o : Oper} {h : Nat} {a : Act} {fr' : List Nat} {n : Nat} {l r : List Value} {ob : List Prop} (hI : Inv D w0 L0 H F w) (hT : Knows N M T a) (hx : stepT P F.E N o h T H (List.range' w.heap.size n) = some (T', H', fr', l, r, ob)) (hlr : l = r) (hob : AllP ob)
    {K : Act → World → Prop} (hK : ∀ a' w' m, Inv D w0 L0 H' F w' → Knows N M T' a' → fr' = List.range' w'.heap.size m → K a' w') : o.wpIn (fz r') 0 P a w K Q := by
  obtain ⟨hka, hd, hs⟩ := stepT_known hx
  have hcong : execOp a.eval o = execOp (rho T) o := execOp_congr o (notSel hs).1 (hT.evals hka)
  refine ⟨fun _ _ => trivial, ?_⟩
  rw [show (fz r').round = r' from rfl, semR (notSel hs).2, hcong]
  match hm : memKind o.op, memKind_le o.op with
  | 0, _ =>
    obtain ⟨rfl, rfl, _, _, v, rfl, hrun⟩ := stepT_pure hm hx hob
    rw [hrun w]
    exact hK _ w n hI (hT.put hd _) rfl
  | 1, _ =>
    obtain ⟨rfl, rfl, v, rfl, hrun⟩ := stepT_load hm hx hlr
    rcases hrun with ⟨_, b, hb, hrun⟩ | ⟨e, he, hrun⟩
    · rw [hrun w (hI.has b (List.mem_of_getElem? hb))]
      exact hK _ w n hI (hT.put hd _) rfl
    · rw [hrun w (hI.rngs e he).2]
      exact hK _ w n hI (hT.put hd _) rfl
  | 2, _ =>
    obtain ⟨rfl, rfl, b, cs, off, vs, hb, rfl, hrun, hblk⟩ := stepT_store hm hx hlr hI
    rw [hrun]
    exact hK _ _ n (hI.set hb hblk) (hT.put hd _) (by rw [(putCells_same _ _ _).1])
  | 3, _ =>
    obtain ⟨v, t, cs, m, rfl, rfl, rfl, rfl, hrun⟩ := stepT_new hm hx
    rw [hrun]
    exact hK _ _ m (hI.new t cs) (hT.put hd _) (by simp)
end

end Go.Proofs.YtlijlapkhimaoaaGreatDoor
