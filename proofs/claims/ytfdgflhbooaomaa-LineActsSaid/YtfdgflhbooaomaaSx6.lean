/- The symbolic machine, 6: regions that draw their order. No program in sight. -/
import Derived.Test.YtfdgflhbooaomaaSx5
namespace Go.Proofs.Ytfdgflhbooaomaa
open Go.RowKit

/-! ### Who waits for whom, in bits (the kernel reckons that fast) -/
def mask (md : Region.Mode) (acc : Array Nat) : List Edge → Nat
  | [] => 0
  | e :: es => (match Region.binds md e with | true => 2 ^ e.on ||| acc.getD e.on 0 | false => 0) ||| mask md acc es
def beforeL (md : Region.Mode) : List Oper → Array Nat → Array Nat
  | [], acc => acc
  | o :: rest, acc => beforeL md rest (acc.push (mask md acc o.after.toList))

theorem waits_mono {md : Region.Mode} {ops : Array Oper} {i : Nat} : ∀ (n j : Nat), waits md ops n j i = true → waits md ops (n + 1) j i = true
  | 0, j, h => by simp [waits] at h
  | n + 1, j, h => by
    unfold waits at h ⊢
    cases hj : ops[j]? with
    | none => rw [hj] at h; cases h
    | some oj =>
      rw [hj] at h
      simp only [Array.any_eq_true', Bool.and_eq_true, Bool.or_eq_true, beq_iff_eq] at h ⊢
      obtain ⟨e, he, hb, h⟩ := h
      exact ⟨e, he, hb, h.imp id (waits_mono n e.on)⟩
theorem waits_le {md : Region.Mode} {ops : Array Oper} {i j n : Nat} (h : waits md ops n j i = true) : ∀ m, n ≤ m → waits md ops m j i = true := fun m hm => by
  induction hm with
  | refl => exact h
  | step _ ih => exact waits_mono _ _ ih

theorem mask_spec {md : Region.Mode} {acc : Array Nat} {i : Nat} : ∀ (es : List Edge), (mask md acc es).testBit i = true → ∃ e ∈ es, Region.binds md e = true ∧ (e.on = i ∨ (acc.getD e.on 0).testBit i = true)
  | [], h => by simp [mask] at h
  | e :: es, h => by
    unfold mask at h
    rw [Nat.testBit_or, Bool.or_eq_true] at h
    rcases h with h | h
    · cases hb : Region.binds md e with
      | false => rw [hb] at h; simp at h
      | true =>
        rw [hb] at h
        simp only [Nat.testBit_or, Bool.or_eq_true] at h
        refine ⟨e, by simp, hb, ?_⟩
        rcases h with h | h
        · left
          rw [Nat.testBit_two_pow] at h
          simpa using h
        · exact .inr h
    · obtain ⟨e', he, h'⟩ := mask_spec es h
      exact ⟨e', by simp [he], h'⟩

theorem beforeL_spec {md : Region.Mode} {ops : Array Oper} {i : Nat} : ∀ (rest : List Oper) (acc : Array Nat), ops.toList.drop acc.size = rest → (∀ j, (acc.getD j 0).testBit i = true → waits md ops (j + 1) j i = true) →
    ∀ j, ((beforeL md rest acc).getD j 0).testBit i = true → waits md ops (j + 1) j i = true
  | [], acc, _, ha, j, h => ha j h
  | o :: rest, acc, hd, ha, j, h => by
    refine beforeL_spec rest (acc.push (mask md acc o.after.toList)) ?_ (fun k hk => ?_) j h
    · rw [Array.size_push, ← List.drop_drop, hd]
      rfl
    · rcases Nat.lt_trichotomy k acc.size with hlt | heq | hgt
      · rw [Array.getD_eq_getD_getElem?, Array.getElem?_push_lt hlt] at hk
        exact ha k (by rw [Array.getD_eq_getD_getElem?]; simpa [hlt] using hk)
      · subst heq
        rw [Array.getD_eq_getD_getElem?, Array.getElem?_push_size] at hk
        simp only [Option.getD_some] at hk
        obtain ⟨e, he, hb, h'⟩ := mask_spec _ hk
        have ho : ops[acc.size]? = some o := by
          have : (ops.toList.drop acc.size)[0]? = some o := by rw [hd]; rfl
          simpa using this
        unfold waits
        rw [ho]
        simp only [Array.any_eq_true', Bool.and_eq_true, Bool.or_eq_true, beq_iff_eq]
        refine ⟨e, by simpa using he, hb, h'.imp id fun h' => ?_⟩
        have hlt : e.on < acc.size := by
          rcases Nat.lt_or_ge e.on acc.size with h1 | h1
          · exact h1
          · simp [Array.getD_eq_getD_getElem?, Array.getElem?_eq_none h1] at h'
        exact waits_le (ha e.on h') _ (by omega)
      · rw [Array.getD_eq_getD_getElem?, Array.getElem?_eq_none (by simp; omega)] at hk
        simp at hk

def freeB (b : Array Nat) (ops : Array Oper) (listed : Array Bool) (i : Nat) : Bool :=
  match ops[i]? with
  | none => false
  | some oi => (List.range ops.size).all fun j =>
    match ops[j]? with
    | none => true
    | some oj => j == i || listed.getD j true || (b.getD j 0).testBit i || oi.apart ops oj

def seqOkB (b : Array Nat) (ops : Array Oper) : List (Nat × Nat) → Array Bool → Bool
  | [], listed => (Region.ready .any ops listed).isEmpty
  | (i, 2) :: rest, listed => (Region.ready .any ops listed).contains i && Region.free .any ops listed i && seqOkB b ops rest (listed.setIfInBounds i true)
  | (i, 1) :: rest, listed => (Region.ready .any ops listed).contains i && freeB b ops listed i && seqOkB b ops rest (listed.setIfInBounds i true)
  | (i, 0) :: rest, listed => (Region.ready .any ops listed == [i]) && seqOkB b ops rest (listed.setIfInBounds i true)
  | (_, _ + 3) :: _, _ => false

theorem freeB_free {ops : Array Oper} {listed : Array Bool} {i : Nat} (h : freeB (beforeL .any ops.toList #[]) ops listed i = true) : freeN (fun _ => true) .any ops listed i = true := by
  unfold freeB at h
  unfold freeN
  cases hi : ops[i]? with
  | none => rw [hi] at h; cases h
  | some oi =>
    rw [hi] at h
    simp only [List.all_eq_true, List.mem_range] at h ⊢
    intro j hj
    have := h j hj
    cases hoj : ops[j]? with
    | none => rfl
    | some oj =>
      rw [hoj] at this
      simp only [Bool.or_eq_true, Bool.and_true] at this ⊢
      rcases this with (h1 | h1) | h1
      · exact .inl (.inl h1)
      · exact .inl (.inr (waits_le (beforeL_spec ops.toList #[] (by simp) (fun k hk => by simp at hk) j h1) _ (by omega)))
      · exact .inr h1
theorem seqOkB_ok {ops : Array Oper} : ∀ (l : List (Nat × Nat)) (listed : Array Bool), seqOkB (beforeL .any ops.toList #[]) ops l listed = true → seqOk ops (fun _ => true) l listed = true
  | [], listed, h => h
  | (i, 2) :: rest, listed, h => by
    simp only [seqOkB, Bool.and_eq_true] at h
    simp only [seqOk, Bool.and_eq_true]
    exact ⟨h.1, seqOkB_ok rest _ h.2⟩
  | (i, 1) :: rest, listed, h => by
    simp only [seqOkB, Bool.and_eq_true] at h
    simp only [seqOk, Bool.and_eq_true]
    exact ⟨⟨h.1.1, freeB_free h.1.2⟩, seqOkB_ok rest _ h.2⟩
  | (i, 0) :: rest, listed, h => by
    simp only [seqOkB, Bool.and_eq_true] at h
    simp only [seqOk, Bool.and_eq_true]
    exact ⟨h.1, seqOkB_ok rest _ h.2⟩
  | (_, _ + 3) :: _, _, h => by simp [seqOkB] at h

/-- where the region stands: the world at its beginning, the blocks then, which of them it may write -/
structure DI (E : List (Addr × List Value)) (W0 : World) (H0 : List Bk) (lm : List Nat) (H : List Bk) (w : World) : Prop where
  keep : Keep (gs (lm.filterMap (H0[·]?))) W0 w
  same : ∀ i, i < H0.length → i ∉ lm → H[i]? = H0[i]?
  old : ∀ i, i < H0.length → (H[i]?).map (·.g) = (H0[i]?).map (·.g)
  new : ∀ i b, H0.length ≤ i → H[i]? = some b → W0.heap.size ≤ b.g
  len : H0.length ≤ H.length
  base : ∀ b ∈ H0, Blk W0 b.g b.t b.cs.toArray
  nodup : (gs H0).Nodup
  rngs : ∀ e ∈ E, e.1.block < W0.heap.size ∧ e.1.block ∉ gs H0 ∧ ∀ j u, e.2[j]? = some u → W0.cell? (e.1.add j) = some u

section
variable {P : Program} {c : Code} {Q : Exit → Act → World → Prop} {D : Nat → Prop} {w0 w W0 : World} {L0 lm : List Nat} {H H' H0 : List Bk} {F : Fc} {N : Nat} {T T' : List (Nat × Value)} {a : Act} {k : List It} {E : List (Addr × List Value)}

theorem DI.keep_put (h : DI E W0 H0 lm H w) {i : Nat} {b : Bk} (hi : H[i]? = some b) (hm : i ∈ lm ∨ H0.length ≤ i) (off : Nat) (vs cs : List Value) : DI E W0 H0 lm (H.set i ⟨b.g, b.t, cs⟩) (putCells w b.g off vs) := by
  refine ⟨?_, fun j hj hn => ?_, fun j hj => ?_, fun j b' hj hb' => ?_, by simpa using h.len, h.base, h.nodup, h.rngs⟩
  · obtain ⟨h1, h2, h3, h4⟩ := putCells_same (g := b.g) vs w off
    refine ⟨h2.trans h.keep.os, h3.trans h.keep.tape, h4.trans h.keep.output, by rw [h1]; exact h.keep.size, fun n hn hnot => ?_⟩
    rw [putCells_heap ?_ vs w off]
    · exact h.keep.block n hn hnot
    · rintro rfl
      rcases Nat.lt_or_ge i H0.length with hlt | hge
      · rcases hm with hm | hm
        · have e := h.old i hlt
          rw [hi] at e
          cases hb : H0[i]? with
          | none => rw [hb] at e; cases e
          | some b0 =>
            rw [hb] at e
            simp only [Option.map_some, Option.some.injEq] at e
            refine hnot (List.mem_map.2 ⟨b0, List.mem_filterMap.2 ⟨i, hm, hb⟩, e.symm⟩)
        · omega
      · have := h.new i b hge hi
        omega
  · have hne : i ≠ j := fun e => by subst e; rcases hm with hm | hm; exact hn hm; omega
    rw [List.getElem?_set_ne hne]
    exact h.same j hj hn
  · by_cases e : i = j
    · subst e
      rw [← h.old i hj, hi]
      have hlt : i < H.length := (List.getElem?_eq_some_iff.1 hi).1
      simp [List.getElem?_set_self hlt]
    · rw [List.getElem?_set_ne e]
      exact h.old j hj
  · by_cases e : i = j
    · subst e
      have hlt : i < H.length := (List.getElem?_eq_some_iff.1 hi).1
      rw [List.getElem?_set_self hlt] at hb'
      injection hb' with hb'
      subst hb'
      exact h.new i b hj hi
    · rw [List.getElem?_set_ne e] at hb'
      exact h.new j b' hj hb'

theorem DI.keep_new (h : DI E W0 H0 lm H w) (t : TypeId) (cs : List Value) : DI E W0 H0 lm (H ++ [⟨w.heap.size, t, cs⟩]) (w.alloc (.cells cs.toArray t)) := by
  have hl := h.len
  refine ⟨h.keep.trans (Keep.alloc _ _ _), fun j hj hn => ?_, fun j hj => ?_, fun j b' hj hb' => ?_, by simp; omega, h.base, h.nodup, h.rngs⟩
  · rw [List.getElem?_append_left (by omega)]
    exact h.same j hj hn
  · rw [List.getElem?_append_left (by omega)]
    exact h.old j hj
  · by_cases e : j < H.length
    · rw [List.getElem?_append_left e] at hb'
      exact h.new j b' hj hb'
    · rw [List.getElem?_append_right (by omega)] at hb'
      have : j - H.length = 0 := by
        rcases Nat.eq_zero_or_pos (j - H.length) with h1 | h1
        · exact h1
        · rw [List.getElem?_eq_none (by simp; omega)] at hb'
          cases hb'
      rw [this] at hb'
      simp at hb'
      subst hb'
      exact h.keep.size

/-- a block that the region does not write reads as at its beginning, whatever came between -/
theorem DI.reads (h : DI E W0 H0 lm H w) {i : Nat} {b : Bk} (hi : H[i]? = some b) (hlt : i < H0.length) (hn : i ∉ lm) {w' : World} (hk : Keep (gs (lm.filterMap (H0[·]?))) W0 w') : Blk w' b.g b.t b.cs.toArray := by
  have e := h.same i hlt hn
  rw [hi] at e
  have hb := h.base b (List.mem_of_getElem? e.symm)
  refine (hk.block b.g hb.lt fun hm => ?_).trans hb
  obtain ⟨b', hb', hg⟩ := List.mem_map.1 hm
  obtain ⟨j, hj, hb'⟩ := List.mem_filterMap.1 hb'
  have h1 : (gs H0)[i]? = some b.g := by simp [gs, ← e]
  have h2 : (gs H0)[j]? = some b'.g := by simp [gs, hb']
  have := (List.getElem?_inj (i := i) (j := j) (List.getElem?_eq_some_iff.1 h1).1 h.nodup).1 (by rw [h1, h2, hg])
  exact hn (by rw [this]; exact hj)
theorem DI.reads_rng (h : DI E W0 H0 lm H w) {e : Addr × List Value} (he : e ∈ E) {w' : World} (hk : Keep (gs (lm.filterMap (H0[·]?))) W0 w') : ∀ j u, e.2[j]? = some u → w'.cell? (e.1.add j) = some u := fun j u hj => by
  obtain ⟨h1, h2, h3⟩ := h.rngs e he
  rw [World.cell?_of_block (w := W0) (hk.block _ (by rw [block_of_add]; exact h1) fun hm => ?_)]
  · exact h3 j u hj
  · rw [block_of_add] at hm
    obtain ⟨b', hb', hg⟩ := List.mem_map.1 hm
    obtain ⟨i, _, hb'⟩ := List.mem_filterMap.1 hb'
    exact h2 (hg ▸ List.mem_map.2 ⟨b', List.mem_of_getElem? hb', rfl⟩)

end

/-! ### the machine -/
structure Df where
  T : List (Nat × Value)
  H : List Bk
  ord : List (Nat × Nat)
  hs : List Nat
  fr : List Nat
  L : List Value
  R : List Value
  ob : List Prop

def memB (l : List Nat) (i : Nat) : Bool := l.any fun j => Nat.beq j i

/-- one operation of a region that draws: kind 2 neither reads nor writes, kind 1 loads from a block that the region does not write, kind 0 does what it does -/
def stepD (P : Program) (E : List (Addr × List Value)) (ops : List Oper) (N n0 : Nat) (lm : List Nat) (s : Df) : Option Df :=
  match s.ord with
  | [] => none
  | (i, kd) :: ord =>
    match ops[i]? with
    | none => none
    | some o =>
      match wantedT ops.toArray s.T o with
      | none => none
      | some false => match okDst N o.dst && Nat.blt kd 3 with
        | true => some { s with T := putT s.T o.dst undef, ord := ord }
        | false => none
      | some true =>
        match stepT P E N o (s.hs.headD 0) s.T s.H s.fr with
        | none => none
        | some (T', H', fr', l, r, ob) =>
          match (match kd, memKind o.op with
            | 2, 0 => true
            | 1, 1 => Nat.ble 1000 (s.hs.headD 0) || (Nat.blt (s.hs.headD 0) n0 && !memB lm (s.hs.headD 0))
            | 0, 0 => true
            | 0, 1 => true
            | 0, 2 => memB lm (s.hs.headD 0) || Nat.ble n0 (s.hs.headD 0)
            | 0, 3 => true
            | _, _ => false) with
          | false => none
          | true => some { T := T', H := H', ord := ord, hs := (match l with | [] => s.hs | _ => s.hs.tail), fr := fr', L := s.L ++ l, R := s.R ++ r, ob := s.ob ++ ob }

def stepsD (P : Program) (E : List (Addr × List Value)) (ops : List Oper) (N n0 : Nat) (lm : List Nat) : Nat → Df → Option Df
  | 0, s => some s
  | n + 1, s => match stepD P E ops N n0 lm s with
    | none => none
    | some s' => stepsD P E ops N n0 lm n s'

/-- a panic does not ask for slots -/
def PanicOk (Q : Exit → Act → World → Prop) : Prop := ∀ ch a d v w, Q (.panic ch) (a.put d v) w → Q (.panic ch) a w

section
variable {P : Program} {c : Code} {Q : Exit → Act → World → Prop} {D : Nat → Prop} {w0 w W0 : World} {L0 lm : List Nat} {H H' H0 : List Bk} {F : Fc} {N : Nat} {T T' : List (Nat × Value)} {a : Act} {k : List It} {E : List (Addr × List Value)}

theorem panicOk_body {fn : Func} {R : Ending → World → Prop} : PanicOk (bodyPost P fn R) := fun ch a d v w h => by
  obtain ⟨h1, h2⟩ := h
  exact ⟨by cases d <;> exact h1, h2⟩
theorem panicOk_it (h : PanicOk Q) : ∀ {k : List It}, PanicOk (itPost P c Q k)
  | [], ch, a, d, v, w, hq => h ch a d v w hq
  | it :: k, ch, a, d, v, w, hq => by
    obtain ⟨tag, p, i⟩ := it
    match tag with
    | 0 => exact panicOk_it h (k := k) ch a d v w hq
    | 1 => exact panicOk_it h (k := k) ch a d v w hq
    | 2 => exact panicOk_it h (k := k) ch a d v w hq
    | n + 3 => exact hq
theorem panicOk_loop {ι : Type} {I : ι → Act → World → Prop} {μ : ι → Nat} {x : ι} (h : PanicOk Q) : PanicOk (loopPost P c Q k I μ x) := fun ch a d v w hq => panicOk_it h (k := k) ch a d v w hq

/-- what is to be shown in the midst of such a region -/
def AtD (P : Program) (c : Code) (Q : Exit → Act → World → Prop) (k : List It) (p : List Nat) (W0 : World) (H0 : List Bk) (lm : List Nat) (ord : List (Nat × Nat)) (a : Act) (w : World) : Prop :=
  wpSeq P (opsAt c p).toArray (Keep (gs (lm.filterMap (H0[·]?))) W0) (fun _ => true) (itPost P c Q k) ord a w

theorem stepD_rows {ops : List Oper} {n0 : Nat} {s s' : Df} (h : stepD P E ops N n0 lm s = some s') : ∃ l r o, s'.L = s.L ++ l ∧ s'.R = s.R ++ r ∧ l.length = r.length ∧ s'.ob = s.ob ++ o := by
  unfold stepD at h
  split at h
  · cases h
  · split at h
    · cases h
    · split at h
      · cases h
      · split at h
        · injection h with h
          subst h
          exact ⟨[], [], [], by simp, by simp, rfl, by simp⟩
        · cases h
      · split at h
        · cases h
        · rename_i hst
          split at h
          · cases h
          · injection h with h
            subst h
            exact ⟨_, _, _, rfl, rfl, stepT_len hst, rfl⟩

theorem stepsD_rows {ops : List Oper} {n0 : Nat} : ∀ (n : Nat) {s s' : Df}, stepsD P E ops N n0 lm n s = some s' → ∃ l r o, s'.L = s.L ++ l ∧ s'.R = s.R ++ r ∧ l.length = r.length ∧ s'.ob = s.ob ++ o
  | 0, s, s', h => by
    simp only [stepsD, Option.some.injEq] at h
    subst h
    exact ⟨[], [], [], by simp, by simp, rfl, by simp⟩
  | n + 1, s, s', h => by
    unfold stepsD at h
    split at h
    · cases h
    · rename_i s1 h1
      obtain ⟨l, r, o, e1, e2, e3, e7⟩ := stepD_rows h1
      obtain ⟨l', r', o', e4, e5, e6, e8⟩ := stepsD_rows n h
      exact ⟨l ++ l', r ++ r', o ++ o', by rw [e4, e1, List.append_assoc], by rw [e5, e2, List.append_assoc], by simp [e3, e6], by rw [e8, e7, List.append_assoc]⟩

theorem memB_spec {l : List Nat} {i : Nat} : memB l i = true ↔ i ∈ l := by
  unfold memB
  rw [List.any_eq_true]
  constructor
  · rintro ⟨j, hj, hb⟩
    rw [← Nat.eq_of_beq_eq_true hb]
    exact hj
  · intro h
    exact ⟨i, h, by simp⟩

theorem stepD_sound {p : List Nat} {s s' : Df} {n : Nat} (hQ : PanicOk Q) (hI : Inv D w0 L0 s.H F w) (hD : DI F.E W0 H0 lm s.H w) (hT : Knows N s.T a) (hf : s.fr = List.range' w.heap.size n) (h : stepD P F.E (opsAt c p) N H0.length lm s = some s') (hlr : s.L = s.R) (hlr' : s'.L = s'.R) (hob : AllP s'.ob)
    (hk : ∀ a' w' m, Inv D w0 L0 s'.H F w' → DI F.E W0 H0 lm s'.H w' → Knows N s'.T a' → s'.fr = List.range' w'.heap.size m → AtD P c Q k p W0 H0 lm s'.ord a' w') : AtD P c Q k p W0 H0 lm s.ord a w := by
  have hQ' := panicOk_it (P := P) (c := c) hQ (k := k)
  unfold stepD at h
  unfold AtD
  split at h
  · cases h
  · rename_i i kd ord hord
    rw [hord]
    split at h
    · cases h
    · rename_i o ho
      have ho' : (opsAt c p).toArray[i]? = some o := by simpa using ho
      split at h
      · cases h
      · rename_i hw
        have hw' := hT.wanted hw
        split at h
        · rename_i hd
          simp only [Bool.and_eq_true] at hd
          injection h with h
          subst h
          have hr := hk _ w n hI hD (hT.put hd.1 undef) hf
          unfold AtD at hr
          have hkd : kd < 3 := by simpa using hd.2
          match kd, hkd with
          | 0, _ =>
            refine wpSeq_step ho' fun K hK => ?_
            rw [hw']
            simp only [Bool.false_eq_true, if_false]
            exact hK _ _ (fun _ h => h) hr
          | 1, _ => exact wpSeq_skip1 ho' hw' (fun ch a w hq => hQ' ch a _ _ w hq) hD.keep hr
          | 2, _ => exact wpSeq_skip ho' hw' (fun ch a w hq => hQ' ch a _ _ w hq) hr
        · cases h
      · rename_i hw
        have hw' := hT.wanted hw
        split at h
        · cases h
        · rename_i T' H' fr' l r ob hst
          obtain ⟨hka, hd, hs⟩ := stepT_known hst
          have hcong : execOp a.eval o = execOp (rho s.T) o := execOp_congr o (fun cs b e => by rw [e] at hs; simp [isSel] at hs) (hT.evals hka)
          split at h
          · cases h
          · rename_i hkd
            injection h with h
            subst h
            simp only at hlr'
            rw [hlr] at hlr'
            have hl : l = r := List.append_cancel_left hlr'
            have pure_ : memKind o.op = 0 → ∃ v, (∀ w', (execOp a.eval o).run P w' = .ok (.value v) w') ∧ wpSeq P (opsAt c p).toArray (Keep (gs (lm.filterMap (H0[·]?))) W0) (fun _ => true) (itPost P c Q k) ord (a.put o.dst v) w := fun hm => by
              obtain ⟨rfl, rfl, _, _, v, rfl, hrun⟩ := stepT_pure hm hst (AllP.append.1 hob).2
              exact ⟨v, fun w' => by rw [hcong]; exact hrun w', hk _ w n hI hD (hT.put hd v) hf⟩
            have load_ : memKind o.op = 1 → ∃ v, ((s.hs.headD 0 < 1000 ∧ ∃ b, s.H[s.hs.headD 0]? = some b ∧ ∀ w', Blk w' b.g b.t b.cs.toArray → (execOp a.eval o).run P w' = .ok (.value v) w') ∨ (∃ e ∈ F.E, ∀ w', (∀ j u, e.2[j]? = some u → w'.cell? (e.1.add j) = some u) → (execOp a.eval o).run P w' = .ok (.value v) w')) ∧ wpSeq P (opsAt c p).toArray (Keep (gs (lm.filterMap (H0[·]?))) W0) (fun _ => true) (itPost P c Q k) ord (a.put o.dst v) w := fun hm => by
              obtain ⟨rfl, rfl, v, rfl, hrun⟩ := stepT_load hm hst hl
              refine ⟨v, ?_, hk _ w n hI hD (hT.put hd v) hf⟩
              rw [hcong]
              exact hrun
            split at hkd
            · rename_i hm
              obtain ⟨v, h1, h2⟩ := pure_ hm
              exact wpSeq_pure ho' hw' (fun ch a w hq => hQ' ch a _ _ w hq) h1 h2
            · rename_i hm
              obtain ⟨v, h1, h2⟩ := load_ hm
              rcases h1 with ⟨hlt0, b, hb, h1⟩ | ⟨e, he, h1⟩
              · have hkd : (Nat.blt (s.hs.headD 0) H0.length && !memB lm (s.hs.headD 0)) = true := by
                  rcases Bool.or_eq_true_iff.1 hkd with h | h
                  · exact absurd (Nat.le_of_ble_eq_true h) (by omega)
                  · exact h
                simp only [Bool.and_eq_true, Bool.not_eq_true'] at hkd
                have hlt : s.hs.headD 0 < H0.length := by simpa using hkd.1
                have hnm : s.hs.headD 0 ∉ lm := fun hmem => by rw [memB_spec.2 hmem] at hkd; cases hkd.2
                exact wpSeq_read ho' hw' (fun ch a w hq => hQ' ch a _ _ w hq) hD.keep (fun w' hS => h1 w' (hD.reads hb hlt hnm hS)) h2
              · exact wpSeq_read ho' hw' (fun ch a w hq => hQ' ch a _ _ w hq) hD.keep (fun w' hS => h1 w' (hD.reads_rng he hS)) h2
            · rename_i hm
              obtain ⟨v, h1, h2⟩ := pure_ hm
              refine wpSeq_step ho' fun K hK => ?_
              rw [hw']
              simp only [if_true]
              unfold Oper.wp
              rw [h1 w]
              exact hK _ _ (fun _ h => h) h2
            · rename_i hm
              obtain ⟨v, h1, h2⟩ := load_ hm
              have h1 : (execOp a.eval o).run P w = .ok (.value v) w := by
                rcases h1 with ⟨_, b, hb, h1⟩ | ⟨e, he, h1⟩
                · exact h1 w (hI.has b (List.mem_of_getElem? hb))
                · exact h1 w (hI.rngs e he).2
              refine wpSeq_step ho' fun K hK => ?_
              rw [hw']
              simp only [if_true]
              unfold Oper.wp
              rw [h1]
              exact hK _ _ (fun _ h => h) h2
            · rename_i hm
              obtain ⟨rfl, rfl, b, cs, off, vs, hb, rfl, hrun, hblk⟩ := stepT_store hm hst hl hI
              have hD' := hD.keep_put hb (by
                simp only [Bool.or_eq_true] at hkd
                rcases hkd with h1 | h1
                · exact .inl (memB_spec.1 h1)
                · exact .inr (by simpa using h1)) off vs cs
              refine wpSeq_step ho' fun K hK => ?_
              rw [hw']
              simp only [if_true]
              unfold Oper.wp
              rw [hcong, hrun]
              exact hK _ _ (fun _ _ => hD'.keep) (hk _ _ n (hI.set hb hblk) hD' (hT.put hd _) (by rw [hf, (putCells_same _ _ _).1]))
            · rename_i hm
              rw [hf] at hst
              obtain ⟨v, t, cs, m, rfl, rfl, rfl, rfl, hrun⟩ := stepT_new hm hst
              have hD' := hD.keep_new t cs
              refine wpSeq_step ho' fun K hK => ?_
              rw [hw']
              simp only [if_true]
              unfold Oper.wp
              rw [hcong, hrun]
              exact hK _ _ (fun _ _ => hD'.keep) (hk _ _ m (hI.new t cs) hD' (hT.put hd _) (by simp))
            · cases hkd

theorem stepsD_sound {p : List Nat} (hQ : PanicOk Q) : ∀ (n : Nat) {s s' : Df} {a : Act} {w : World} {m : Nat}, Inv D w0 L0 s.H F w → DI F.E W0 H0 lm s.H w → Knows N s.T a → s.fr = List.range' w.heap.size m → stepsD P F.E (opsAt c p) N H0.length lm n s = some s' → s.L = s.R → s'.L = s'.R → AllP s'.ob →
    (∀ a' w' m, Inv D w0 L0 s'.H F w' → DI F.E W0 H0 lm s'.H w' → Knows N s'.T a' → s'.fr = List.range' w'.heap.size m → AtD P c Q k p W0 H0 lm s'.ord a' w') → AtD P c Q k p W0 H0 lm s.ord a w
  | 0, s, s', a, w, m, hI, hD, hT, hf, h, _, _, _, hk => by
    simp only [stepsD, Option.some.injEq] at h
    subst h
    exact hk a w m hI hD hT hf
  | n + 1, s, s', a, w, m, hI, hD, hT, hf, h, hlr, hlr', hob, hk => by
    unfold stepsD at h
    split at h
    · cases h
    · rename_i s1 h1
      obtain ⟨l, r, o, e1, e2, e3, e7⟩ := stepD_rows h1
      obtain ⟨l', r', o', e4, e5, e6, e8⟩ := stepsD_rows n h
      have h1o : AllP s1.ob := by
        rw [e8] at hob
        exact (AllP.append.1 hob).1
      have h1r : s1.L = s1.R := by
        rw [e4, e5] at hlr'
        exact (List.append_inj hlr' (by rw [e1, e2, hlr]; simp [e3])).1
      exact stepD_sound hQ hI hD hT hf h1 hlr h1r h1o fun a' w' m' i1 i2 i3 i4 => stepsD_sound hQ n i1 i2 i3 i4 h h1r hlr' hob hk

def restrD (live : List Nat) (s : Df) : Df := { s with T := live.filterMap (fun i => (look s.T i).map fun v => (i, v)) }

/-- n operations of such a region -/
theorem goD_ {p : List Nat} {ord : List (Nat × Nat)} (n m : Nat) (hs live : List Nat) (hQ : PanicOk Q) (hI : Inv D w0 L0 H F w) (hD : DI F.E W0 H0 lm H w) (hT : Knows N T a)
    (h : ∀ g : List Nat, g.length = m → ∃ T' H' ord' L ob, (stepsD P F.E (opsAt c p) N H0.length lm n ⟨T, H, ord, hs, g, [], [], []⟩).map (restrD live) = some ⟨T', H', ord', [], [], L, L, ob⟩ ∧ AllP ob ∧
      ∀ a' w', Inv D w0 L0 H' F w' → DI F.E W0 H0 lm H' w' → Knows N T' a' → AtD P c Q k p W0 H0 lm ord' a' w') : AtD P c Q k p W0 H0 lm ord a w := by
  obtain ⟨T', H', ord', L, ob, h1, hob, h2⟩ := h (List.range' w.heap.size m) (by simp)
  rw [Option.map_eq_some_iff] at h1
  obtain ⟨s', h1, h3⟩ := h1
  obtain ⟨sT, sH, sk, shs, sfr, sL, sR, sob⟩ := s'
  simp only [restrD, Df.mk.injEq] at h3
  obtain ⟨rfl, rfl, rfl, rfl, rfl, rfl, rfl, rfl⟩ := h3
  exact stepsD_sound hQ n (s := ⟨T, H, ord, hs, List.range' w.heap.size m, [], [], []⟩) hI hD hT rfl h1 rfl rfl hob fun a' w' _ i1 i2 i3 _ => h2 a' w' i1 i2 (i3.sub (look_live live))

theorem DI.start (hI : Inv D w0 L0 H F w) (lm : List Nat) : DI F.E w H lm H w :=
  ⟨Keep.refl _ _, fun _ _ _ => rfl, fun _ _ => rfl, (fun i b hi hb => by rw [List.getElem?_eq_none hi] at hb; cases hb), Nat.le_refl _, hI.has, hI.nodup, fun e he => ⟨(hI.rngs e he).1.1, (hI.rngs e he).1.2.2, (hI.rngs e he).2⟩⟩

/-- such a region begins -/
theorem draw_ {p : List Nat} {i id : Nat} {ops : Array Oper} (ord : List (Nat × Nat)) (lm : List Nat) (hc : codeAt c p = .region id ops true) (hm : P.follows .mixedOrders = true)
    (hok : (decide (ord.length = (opsAt c p).length) && Region.noSelect (opsAt c p).toArray && seqOk (opsAt c p).toArray (fun _ => true) ord (Array.replicate (opsAt c p).length false)) = true) (hI : Inv D w0 L0 H F w)
    (h : ∀ w1, Inv D w0 L0 H F w1 → DI F.E w1 H lm H w1 → AtD P c Q k p w1 H lm ord a w1) : At P c Q (⟨0, p, i⟩ :: k) a w := by
  show (codeAt c p).wp P _ a w
  have e : ops = (opsAt c p).toArray := by unfold opsAt; rw [hc]
  rw [hc, e]
  refine wp_region_seq ord (fun _ => true) (Keep (gs (lm.filterMap (H[·]?))) w.drew) hm hok ?_
  rintro _ rfl
  exact h w.drew hI.drew (DI.start hI.drew lm)

/-- it is over -/
theorem doneD_ {p : List Nat} (h : At P c Q k a w) : AtD P c Q k p W0 H0 lm [] a w := wpSeq_nil h

theorem DI.after {w' : World} (h : DI E W0 H0 lm H w) (hk : Keep [] w w') : DI E W0 H0 lm H w' :=
  ⟨h.keep.trans (Keep.of_below hk.below), h.same, h.old, h.new, h.len, h.base, h.nodup, h.rngs⟩

/-- a call -/
theorem callD_ {p : List Nat} {i : Nat} {ord : List (Nat × Nat)} {o : Oper} {f : FuncId} {vs : Array Value} {R : Ending → World → Prop} (hT : Knows N T a) (hD : DI F.E W0 H0 lm H w) (ho : (opsAt c p)[i]? = some o) (hw : wantedT (opsAt c p).toArray T o = some true) (hk : (knowsAll T o.op && okDst N o.dst && !isSel o.op) = true)
    (he : pureRun P (execOp (rho T) o) = some (.enter f vs)) (hR : Calls P f vs w R) (hp : ∀ e w', R e w' → ∃ v H', e = .returned v ∧ DI F.E W0 H0 lm H' w' ∧ ∀ a', Knows N (putT T o.dst v) a' → AtD P c Q k p W0 H0 lm ord a' w') : AtD P c Q k p W0 H0 lm ((i, 0) :: ord) a w := by
  have ho' : (opsAt c p).toArray[i]? = some o := by simpa using ho
  refine wpSeq_step ho' fun K hK => ?_
  rw [hT.wanted hw]
  simp only [if_true]
  simp only [Bool.and_eq_true, Bool.not_eq_true'] at hk
  obtain ⟨⟨hk, hd⟩, hs⟩ := hk
  unfold Oper.wp
  rw [execOp_congr _ (fun cs b e => by rw [e] at hs; simp [isSel] at hs) (hT.evals hk), pureRun_sound _ he w]
  refine hR.mono fun e w' hr => ?_
  obtain ⟨v, H', rfl, hD', h⟩ := hp e w' hr
  exact hK _ _ (fun _ _ => hD'.keep) (h _ (hT.put hd v))

/-- an operation that reads, by its run in whatever world that the region may come to -/
theorem opD_ {p : List Nat} {i : Nat} {ord : List (Nat × Nat)} {o : Oper} {v : Value} (kd : Nat) (hkd : kd = 2 ∨ kd = 1 ∨ kd = 0) (hQ : PanicOk Q) (hT : Knows N T a) (hD : DI F.E W0 H0 lm H w) (ho : (opsAt c p)[i]? = some o) (hw : wantedT (opsAt c p).toArray T o = some true) (hk : (knowsAll T o.op && okDst N o.dst && !isSel o.op) = true)
    (hrun : ∀ w', (kd = 1 → Keep (gs (lm.filterMap (H0[·]?))) W0 w') → (kd = 0 → w' = w) → (execOp (rho T) o).run P w' = .ok (.value v) w') (h : ∀ a', Knows N (putT T o.dst v) a' → AtD P c Q k p W0 H0 lm ord a' w) : AtD P c Q k p W0 H0 lm ((i, kd) :: ord) a w := by
  have ho' : (opsAt c p).toArray[i]? = some o := by simpa using ho
  have hQ' := panicOk_it (P := P) (c := c) hQ (k := k)
  have hw' := hT.wanted hw
  simp only [Bool.and_eq_true, Bool.not_eq_true'] at hk
  obtain ⟨⟨hk, hd⟩, hs⟩ := hk
  have hcong := execOp_congr o (fun cs b e => by rw [e] at hs; simp [isSel] at hs) (hT.evals hk)
  rcases hkd with rfl | rfl | rfl
  · exact wpSeq_pure ho' hw' (fun ch a w hq => hQ' ch a _ _ w hq) (fun w' => by rw [hcong]; exact hrun w' (by simp) (by simp)) (h _ (hT.put hd v))
  · exact wpSeq_read ho' hw' (fun ch a w hq => hQ' ch a _ _ w hq) hD.keep (fun w' hS => by rw [hcong]; exact hrun w' (fun _ => hS) (by simp)) (h _ (hT.put hd v))
  · refine wpSeq_step ho' fun K hK => ?_
    rw [hw']
    simp only [if_true]
    unfold Oper.wp
    rw [hcong, hrun w (by simp) (fun _ => rfl)]
    exact hK _ _ (fun _ h => h) (h _ (hT.put hd v))
end

end Go.Proofs.Ytfdgflhbooaomaa
