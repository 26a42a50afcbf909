/- The symbolic machine, 3: a function's code, step by step. No program in sight. -/
import Derived.Test.YtfdgflhbooaomaaSx2
namespace Go.Proofs.Ytfdgflhbooaomaa
open Go.RowKit

/-- a part of code: of a row, a branch, a block, a loop -/
def Code.part : Code → Nat → Code
  | .seq x y, i => match i with | 0 => x | _ => y
  | .cond _ x y, i => match i with | 0 => x | _ => y
  | .block _ b, _ => b
  | .loop b, _ => b
  | .scope b, _ => b
  | .rangeFunc _ _ x y, i => match i with | 0 => x | _ => y
  | _, _ => .skip
def codeAt : Code → List Nat → Code
  | c, [] => c
  | c, i :: p => codeAt (Code.part c i) p
def opsAt (c : Code) (p : List Nat) : List Oper :=
  match codeAt c p with
  | .region _ ops _ => ops.toList
  | _ => []

/-- what is still to be done: tag 0: the code at path p; 1: operations from number i on, of the region at p; 2: the end of block i -/
structure It where
  tag : Nat
  p : List Nat
  i : Nat

section
variable (P : Program) (c : Code) (Q : Exit → Act → World → Prop)
def itPost : List It → Exit → Act → World → Prop
  | [] => Q
  | it :: k =>
    match it.tag with
    | 0 => Exit.then ((codeAt c it.p).wp P (itPost k)) (itPost k)
    | 1 => Exit.then (wpList P (opsAt c it.p).toArray (itPost k) ((opsAt c it.p).drop it.i)) (itPost k)
    | 2 => Exit.inBlock it.i (itPost k)
    | _ => fun _ _ _ => False
/-- what is to be shown where k is still to be done -/
def At (k : List It) (a : Act) (w : World) : Prop := itPost P c Q k .normal a w
end

def popTo (id : Nat) : List It → Option (List It)
  | [] => none
  | it :: k =>
    match it.tag with
    | 0 => popTo id k
    | 1 => popTo id k
    | 2 => match Nat.beq it.i id with | true => some k | false => popTo id k
    | _ => none

/-- a state of the machine -/
structure Cf where
  T : List (Nat × Value)
  H : List Bk
  k : List It
  hs : List Nat
  fr : List Nat
  L : List Value
  R : List Value
  ob : List Prop

/-- one step -/
def step1 (P : Program) (E : List (Addr × List Value)) (c : Code) (N : Nat) (s : Cf) : Option Cf :=
  match s.k with
  | [] => none
  | it :: k =>
    match it.tag with
    | 0 =>
      match codeAt c it.p with
      | .skip => some { s with k := k }
      | .label _ => some { s with k := k }
      | .region _ _ false => some { s with k := ⟨1, it.p, 0⟩ :: k }
      | .seq _ _ => some { s with k := ⟨0, it.p ++ [0], 0⟩ :: ⟨0, it.p ++ [1], 0⟩ :: k }
      | .cond x _ _ =>
        match evT s.T x with
        | some (.bool true) => some { s with k := ⟨0, it.p ++ [0], 0⟩ :: k }
        | some (.bool false) => some { s with k := ⟨0, it.p ++ [1], 0⟩ :: k }
        | _ => none
      | .block id _ => some { s with k := ⟨0, it.p ++ [0], 0⟩ :: ⟨2, [], id⟩ :: k }
      | .exit id =>
        match popTo id k with
        | some k' => some { s with k := k' }
        | none => none
      | _ => none
    | 1 =>
      match (opsAt c it.p)[it.i]? with
      | none => some { s with k := k }
      | some o =>
        match wantedT (opsAt c it.p).toArray s.T o with
        | none => none
        | some false => match okDst N o.dst with
          | true => some { s with T := putT s.T o.dst undef, k := ⟨1, it.p, it.i + 1⟩ :: k }
          | false => none
        | some true =>
          match stepT P E N o (s.hs.headD 0) s.T s.H s.fr with
          | none => none
          | some (T', H', fr', l, r, ob) => some { T := T', H := H', k := ⟨1, it.p, it.i + 1⟩ :: k, hs := (match l with | [] => s.hs | _ => s.hs.tail), fr := fr', L := s.L ++ l, R := s.R ++ r, ob := s.ob ++ ob }
    | 2 => some { s with k := k }
    | _ => none

def steps (P : Program) (E : List (Addr × List Value)) (c : Code) (N : Nat) : Nat → Cf → Option Cf
  | 0, s => some s
  | n + 1, s => match step1 P E c N s with
    | none => none
    | some s' => steps P E c N n s'

section
variable {P : Program} {c : Code} {Q : Exit → Act → World → Prop}
theorem codeAt_append (p : List Nat) (i : Nat) : ∀ c : Code, codeAt c (p ++ [i]) = Code.part (codeAt c p) i := by
  induction p with
  | nil => intro c; rfl
  | cons j p ih => intro c; exact ih _

theorem popTo_sound {id : Nat} {a : Act} {w : World} : ∀ {k k' : List It}, popTo id k = some k' → itPost P c Q k' .normal a w → itPost P c Q k (.exit id) a w
  | [], _, h, _ => by simp [popTo] at h
  | it :: k, k', h, hq => by
    obtain ⟨tag, p, i⟩ := it
    match tag with
    | 0 => exact popTo_sound (k := k) h hq
    | 1 => exact popTo_sound (k := k) h hq
    | 2 =>
      unfold popTo at h
      simp only at h
      cases hb : Nat.beq i id with
      | true =>
        rw [hb] at h
        have e := Nat.eq_of_beq_eq_true hb
        injection h with h
        subst h e
        show Exit.inBlock i (itPost P c Q k) (.exit i) a w
        simp only [Exit.inBlock, if_true]
        exact hq
      | false =>
        rw [hb] at h
        have hne : ¬ id = i := fun e => by subst e; simp at hb
        show Exit.inBlock i (itPost P c Q k) (.exit id) a w
        simp only [Exit.inBlock, if_neg hne]
        exact popTo_sound (k := k) h hq
    | n + 3 => simp [popTo] at h

theorem step1_rows {E : List (Addr × List Value)} {N : Nat} {s s' : Cf} (h : step1 P E c N s = some s') : ∃ l r o, s'.L = s.L ++ l ∧ s'.R = s.R ++ r ∧ l.length = r.length ∧ s'.ob = s.ob ++ o := by
  have same : ∀ {x : Cf}, some x = some s' → x.L = s.L → x.R = s.R → x.ob = s.ob → ∃ l r o, s'.L = s.L ++ l ∧ s'.R = s.R ++ r ∧ l.length = r.length ∧ s'.ob = s.ob ++ o := fun e h1 h2 h3 => by
    injection e with e
    subst e
    exact ⟨[], [], [], by simp [h1], by simp [h2], rfl, by simp [h3]⟩
  unfold step1 at h
  split at h
  · cases h
  · split at h
    · split at h
      · exact same h rfl rfl rfl
      · exact same h rfl rfl rfl
      · exact same h rfl rfl rfl
      · exact same h rfl rfl rfl
      · split at h
        · exact same h rfl rfl rfl
        · exact same h rfl rfl rfl
        · cases h
      · exact same h rfl rfl rfl
      · split at h
        · exact same h rfl rfl rfl
        · cases h
      · cases h
    · split at h
      · exact same h rfl rfl rfl
      · split at h
        · cases h
        · split at h
          · exact same h rfl rfl rfl
          · cases h
        · split at h
          · cases h
          · rename_i hst
            injection h with h
            subst h
            exact ⟨_, _, _, rfl, rfl, stepT_len hst, rfl⟩
    · exact same h rfl rfl rfl
    · cases h

theorem steps_rows {E : List (Addr × List Value)} {N : Nat} : ∀ (n : Nat) {s s' : Cf}, steps P E c N n s = some s' → ∃ l r o, s'.L = s.L ++ l ∧ s'.R = s.R ++ r ∧ l.length = r.length ∧ s'.ob = s.ob ++ o
  | 0, s, s', h => by
    simp only [steps, Option.some.injEq] at h
    subst h
    exact ⟨[], [], [], by simp, by simp, rfl, by simp⟩
  | n + 1, s, s', h => by
    unfold steps at h
    split at h
    · cases h
    · rename_i s1 h1
      obtain ⟨l, r, o, e1, e2, e3, e7⟩ := step1_rows h1
      obtain ⟨l', r', o', e4, e5, e6, e8⟩ := steps_rows n h
      exact ⟨l ++ l', r ++ r', o ++ o', by rw [e4, e1, List.append_assoc], by rw [e5, e2, List.append_assoc], by simp [e3, e6], by rw [e8, e7, List.append_assoc]⟩

variable {D : Nat → Prop} {w0 : World} {L0 : List Nat} {F : Fc} {N : Nat}

theorem step1_sound {s s' : Cf} {a : Act} {w : World} {n : Nat} (hI : Inv D w0 L0 s.H F w) (hT : Knows N s.T a) (hf : s.fr = List.range' w.heap.size n) (h : step1 P F.E c N s = some s') (hlr : s.L = s.R) (hlr' : s'.L = s'.R) (hob : AllP s'.ob)
    (hk : ∀ a' w' m, Inv D w0 L0 s'.H F w' → Knows N s'.T a' → s'.fr = List.range' w'.heap.size m → At P c Q s'.k a' w') : At P c Q s.k a w := by
  have same : ∀ {x : Cf}, some x = some s' → x.T = s.T → x.H = s.H → x.fr = s.fr → At P c Q x.k a w := fun e h1 h2 h3 => by
    injection e with e
    subst e
    exact hk a w n (h2 ▸ hI) (h1 ▸ hT) (h3 ▸ hf)
  unfold step1 at h
  unfold At
  split at h
  · cases h
  · rename_i it k hk0
    obtain ⟨tag, p, i⟩ := it
    rw [hk0]
    split at h
    · rename_i htag
      simp only at htag
      subst htag
      show (codeAt c p).wp P (itPost P c Q k) a w
      simp only at h
      split at h
      · rename_i hc
        rw [hc]
        exact wp_skip (same h rfl rfl rfl)
      · rename_i hc
        rw [hc]
        exact wp_label (same h rfl rfl rfl)
      · rename_i id ops hc
        rw [hc]
        have e : opsAt c p = ops.toList := by unfold opsAt; rw [hc]
        have := same h rfl rfl rfl
        unfold At at this
        change wpList P (opsAt c p).toArray (itPost P c Q k) ((opsAt c p).drop 0) a w at this
        rw [e] at this
        exact wp_region_list this
      · rename_i x y hc
        rw [hc]
        refine wp_seq ?_
        have := same h rfl rfl rfl
        unfold At at this
        change (codeAt c (p ++ [0])).wp P (Exit.then ((codeAt c (p ++ [1])).wp P (itPost P c Q k)) (itPost P c Q k)) a w at this
        rw [codeAt_append, codeAt_append, hc] at this
        exact this
      · rename_i x y z hc
        rw [hc]
        split at h
        · rename_i hv
          have hev : a.eval x = .bool true := by rw [hT.eval (by rw [hv]; rfl)]; unfold rho; rw [hv]; rfl
          refine wp_cond_true hev ?_
          have := same h rfl rfl rfl
          unfold At at this
          change (codeAt c (p ++ [0])).wp P (itPost P c Q k) a w at this
          rw [codeAt_append, hc] at this
          exact this
        · rename_i hv
          have hev : a.eval x = .bool false := by rw [hT.eval (by rw [hv]; rfl)]; unfold rho; rw [hv]; rfl
          refine wp_cond_false hev ?_
          have := same h rfl rfl rfl
          unfold At at this
          change (codeAt c (p ++ [1])).wp P (itPost P c Q k) a w at this
          rw [codeAt_append, hc] at this
          exact this
        · cases h
      · rename_i id b hc
        rw [hc]
        refine wp_block ?_
        have := same h rfl rfl rfl
        unfold At at this
        change (codeAt c (p ++ [0])).wp P (Exit.inBlock id (itPost P c Q k)) a w at this
        rw [codeAt_append, hc] at this
        exact this
      · rename_i id hc
        rw [hc]
        split at h
        · rename_i k' hp
          exact wp_exit (popTo_sound hp (same h rfl rfl rfl))
        · cases h
      · cases h
    · rename_i htag
      simp only at htag
      subst htag
      show wpList P (opsAt c p).toArray (itPost P c Q k) ((opsAt c p).drop i) a w
      simp only at h
      split at h
      · rename_i ho
        rw [List.drop_eq_nil_of_le (by simpa using ho)]
        exact wpList_nil (same h rfl rfl rfl)
      · rename_i o ho
        obtain ⟨hlt, rfl⟩ := List.getElem?_eq_some_iff.1 ho
        rw [List.drop_eq_getElem_cons hlt]
        split at h
        · cases h
        · rename_i hw
          split at h
          · rename_i hd
            refine wpList_step fun K hK => ?_
            rw [hT.wanted hw]
            simp only [Bool.false_eq_true, if_false]
            injection h with h
            subst h
            exact hK _ _ (hk _ w n hI (hT.put hd _) hf)
          · cases h
        · rename_i hw
          split at h
          · cases h
          · rename_i T' H' fr' l r ob hst
            injection h with h
            subst h
            refine wpList_step fun K hK => ?_
            rw [hT.wanted hw]
            simp only [if_true]
            rw [hf] at hst
            simp only at hlr'
            have hl := stepT_len hst
            rw [hlr] at hlr'
            exact stepT_sound hI hT hst (List.append_cancel_left hlr') (AllP.append.1 hob).2 fun a' w' m h1 h2 h3 => hK _ _ (hk a' w' m h1 h2 h3)
    · rename_i htag
      simp only at htag
      subst htag
      show Exit.inBlock i (itPost P c Q k) .normal a w
      exact same h rfl rfl rfl
    · cases h

/-- steps, one after the other -/
theorem steps_sound : ∀ (n : Nat) {s s' : Cf} {a : Act} {w : World} {m : Nat}, Inv D w0 L0 s.H F w → Knows N s.T a → s.fr = List.range' w.heap.size m → steps P F.E c N n s = some s' → s.L = s.R → s'.L = s'.R → AllP s'.ob →
    (∀ a' w' m, Inv D w0 L0 s'.H F w' → Knows N s'.T a' → s'.fr = List.range' w'.heap.size m → At P c Q s'.k a' w') → At P c Q s.k a w
  | 0, s, s', a, w, m, hI, hT, hf, h, _, _, _, hk => by
    simp only [steps, Option.some.injEq] at h
    subst h
    exact hk a w m hI hT hf
  | n + 1, s, s', a, w, m, hI, hT, hf, h, hlr, hlr', hob, hk => by
    unfold steps at h
    split at h
    · cases h
    · rename_i s1 h1
      obtain ⟨l, r, o, e1, e2, e3, e7⟩ := step1_rows h1
      obtain ⟨l', r', o', e4, e5, e6, e8⟩ := steps_rows n h
      have h1o : AllP s1.ob := by
        rw [e8] at hob
        exact (AllP.append.1 hob).1
      have h1r : s1.L = s1.R := by
        rw [e4, e5] at hlr'
        exact (List.append_inj hlr' (by rw [e1, e2, hlr]; simp [e3])).1
      exact step1_sound hI hT hf h1 hlr h1r h1o fun a' w' m' i1 i2 i3 => steps_sound n i1 i2 i3 h h1r hlr' hob hk
end

end Go.Proofs.Ytfdgflhbooaomaa
