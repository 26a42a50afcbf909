/- opening arguments: what came in as data stands for a model -/
import Derived.Test.YtlijlapkhimaoaaGreatDoorWords
import Derived.ProofKit
import Derived.ChangeArms
namespace Go.Proofs.YtlijlapkhimaoaaGreatDoor
open Go.ChangeShapes Go.WideShapes Go.ChangeAt Go.RowKit

def flatPairs (F : TypeId → Option (List TypeId)) : Nat → List (Nat × TypeId) → Option (List TypeId)
  | _, [] => some []
  | off, (o, t) :: r => if o = off then (F t).bind fun a => (flatPairs F (off + a.length) r).map (a ++ ·) else none

/-- the types of a type's cells, one by one -/
def flatOf (P : Program) : Nat → TypeId → Option (List TypeId)
  | 0, _ => none
  | n + 1, t => (match P.underlying t with
    | some (.struct fs) => flatPairs (flatOf P n) 0 (fs.toList.map fun (f : Field) => (f.offset, f.type))
    | some (.array m e) => flatPairs (flatOf P n) 0 ((List.range m).map fun i => (i * P.cellsOf e, e))
    | some _ => some [t]
    | none => none).bind fun ts => if ts.length = P.cellsOf t then some ts else none

theorem flatOf_len {P : Program} {n : Nat} {t : TypeId} {ts : List TypeId} (h : flatOf P n t = some ts) : ts.length = P.cellsOf t := by
  cases n with
  | zero => simp [flatOf] at h
  | succ n =>
    unfold flatOf at h
    rw [Option.bind_eq_some_iff] at h
    obtain ⟨a, _, h⟩ := h
    split at h
    · injection h with h
      subst h
      assumption
    · cases h

section
variable {H : Type} {enc : TypeId × Value → H} {P : Program} {w : World}

/-- one cell that reads as data of a type -/
def Leaf (enc : TypeId × Value → H) (P : Program) (w : World) (c : Value) (t : TypeId) : Prop := ∃ fuel x, DataW.trod enc P w 0 (fun _ => true) true fuel t [c] = some x

theorem trod_array' {fuel : Nat} {t : TypeId} {cs : List Value} {x : DataW H × List MemPlace} {m : Nat} {e : TypeId} (ht : P.underlying t = some (.array m e)) (h : DataW.trod enc P w 0 (fun _ => true) true fuel t cs = some x) :
    ∃ n, cs.length = P.cellsOf t ∧ ∀ i, i < m → ∃ y, DataW.trod enc P w 0 (fun _ => true) true n e ((cs.drop (i * P.cellsOf e)).take (P.cellsOf e)) = some y := by
  cases fuel with
  | zero => simp [DataW.trod] at h
  | succ n =>
    unfold DataW.trod at h
    rw [ht] at h
    split at h <;> simp_all
    obtain ⟨hl, xs, hp, hd⟩ := h
    refine ⟨n, fun i hi => ?_⟩
    have h1 := mapM_some_length hp
    have h2 := mapM_some_get hp i i (by simp [hi])
    simp at h1
    rw [List.getElem?_eq_getElem (by omega)] at h2
    exact ⟨xs[i].1, xs[i].2, h2⟩

theorem flatPairs_opens {F : TypeId → Option (List TypeId)} {cs : List Value} (hF : ∀ t a, F t = some a → a.length = P.cellsOf t ∧ ∀ fuel ds x, DataW.trod enc P w 0 (fun _ => true) true fuel t ds = some x → All2 (Leaf enc P w) ds a) :
    ∀ (r : List (Nat × TypeId)) (off : Nat) (ts : List TypeId), flatPairs F off r = some ts → (∀ p ∈ r, ∃ n y, DataW.trod enc P w 0 (fun _ => true) true n p.2 ((cs.drop p.1).take (P.cellsOf p.2)) = some y) →
      cs.length = off + ts.length → All2 (Leaf enc P w) (cs.drop off) ts
  | [], off, ts, h, _, hl => by
    simp [flatPairs] at h
    subst h
    rw [List.drop_of_length_le (by simp at hl; omega)]
    trivial
  | (o, t) :: r, off, ts, h, hr, hl => by
    unfold flatPairs at h
    split at h
    · rename_i ho
      subst ho
      rw [Option.bind_eq_some_iff] at h
      obtain ⟨a, ha, h⟩ := h
      rw [Option.map_eq_some_iff] at h
      obtain ⟨b, hb, rfl⟩ := h
      obtain ⟨h1, h2⟩ := hF t a ha
      obtain ⟨n, y, hy⟩ := hr (o, t) (by simp)
      have h3 := h2 _ _ _ hy
      rw [← h1] at h3
      have h4 := flatPairs_opens hF r (o + a.length) b hb (fun p hp => hr p (by simp [hp])) (by simp at hl; omega)
      have := All2.append h3 h4
      rw [← List.drop_drop, List.take_append_drop] at this
      exact this
    · cases h

theorem trod_one {fuel : Nat} {t : TypeId} {cs : List Value} {x : DataW H × List MemPlace} {d : TypeDesc} (ht : P.underlying t = some d) (h1 : ∀ fs, d ≠ .struct fs) (h2 : ∀ m e, d ≠ .array m e) (h : DataW.trod enc P w 0 (fun _ => true) true fuel t cs = some x) : ∃ c, cs = [c] := by
  cases fuel with
  | zero => simp [DataW.trod] at h
  | succ n =>
    unfold DataW.trod at h
    rw [ht] at h
    split at h <;> first | exact ⟨_, rfl⟩ | (rename_i e _; injection e with e; exact absurd e (h1 _)) | (rename_i e _; injection e with e; exact absurd e (h2 _ _)) | simp_all

theorem flat_opens : ∀ (n : Nat) (t : TypeId) (ts : List TypeId), flatOf P n t = some ts → ∀ fuel cs x, DataW.trod enc P w 0 (fun _ => true) true fuel t cs = some x → All2 (Leaf enc P w) cs ts
  | 0, _, _, h => by simp [flatOf] at h
  | n + 1, t, ts, h => by
    intro fuel cs x hx
    have hlen := flatOf_len h
    unfold flatOf at h
    rw [Option.bind_eq_some_iff] at h
    obtain ⟨a, h, h'⟩ := h
    split at h'
    · injection h' with h'
      subst h'
      have hF : ∀ t a, flatOf P n t = some a → a.length = P.cellsOf t ∧ ∀ fuel ds x, DataW.trod enc P w 0 (fun _ => true) true fuel t ds = some x → All2 (Leaf enc P w) ds a := fun t a ha => ⟨flatOf_len ha, flat_opens n t a ha⟩
      split at h
      · rename_i fs hu
        obtain ⟨xs, m, _, _, hl, hxs, hf⟩ := DataW.trod_struct hu hx
        have := flatPairs_opens (cs := cs) hF _ 0 a h (fun p hp => by
          obtain ⟨f, hm, rfl⟩ := List.mem_map.1 hp
          obtain ⟨i, hi⟩ := List.getElem?_of_mem hm
          have h1 := hf i f (by simpa using hi)
          have h2 : i < fs.size := by have := (List.getElem?_eq_some_iff.1 hi).1; simpa using this
          rw [List.getElem?_eq_getElem (by omega)] at h1
          exact ⟨m, _, h1⟩) (by omega)
        simpa using this
      · rename_i m e hu
        obtain ⟨k, hl, hf⟩ := trod_array' hu hx
        have := flatPairs_opens (cs := cs) hF _ 0 a h (fun p hp => by
          obtain ⟨i, hm, rfl⟩ := List.mem_map.1 hp
          obtain ⟨y, hy⟩ := hf i (by simpa using hm)
          exact ⟨k, y, hy⟩) (by omega)
        simpa using this
      · rename_i d h1 h2 hu
        injection h with h
        subst h
        obtain ⟨c, rfl⟩ := trod_one hu h1 h2 hx
        exact ⟨⟨fuel, x, hx⟩, trivial⟩
      · cases h
    · cases h'

theorem Leaf.int {c : Value} {t : TypeId} {k : IntKind} (h : Leaf enc P w c t) (ht : P.underlying t = some (.int k)) : ∃ n, c = .int k n ∧ (Lit.int k n).wf = true := by
  obtain ⟨fuel, x, h⟩ := h
  obtain ⟨n, e, _, hw⟩ := DataW.trod_int ht h
  exact ⟨n, by simpa using e, hw⟩

/-- how a type's data open -/
structure Opn {α : Type} (P : Program) (R : Rp α) (t : TypeId) (ok : α → Prop) : Prop where
  cells : P.cellsOf t = R.size
  opens : ∀ {H : Type} {enc : TypeId × Value → H} {w : World} {fuel : Nat} {cs : List Value} {x : DataW H × List MemPlace}, DataW.trod enc P w 0 (fun _ => true) true fuel t cs = some x → ∃ m, R.at_ w (fun _ => True) cs m ∧ ok m

theorem Opn.int {t : TypeId} {k : IntKind} (ht : P.underlying t = some (.int k)) (hc : P.cellsOf t = 1) : Opn P (Rp.int k) t (fun n => (Lit.int k n).wf = true) :=
  ⟨hc, fun h => by
    obtain ⟨n, rfl, _, hw⟩ := DataW.trod_int ht h
    exact ⟨n, rfl, hw⟩⟩

theorem gather {α β : Type} {Q : Nat → α → β → Prop} : ∀ (n : Nat), (∀ i, i < n → ∃ a b, Q i a b) → ∃ (as : List α) (bs : List β), as.length = n ∧ bs.length = n ∧ ∀ (i : Nat) a b, as[i]? = some a → bs[i]? = some b → Q i a b
  | 0, _ => ⟨[], [], rfl, rfl, by simp⟩
  | n + 1, h => by
    obtain ⟨as, bs, ha, hb, hq⟩ := gather n (fun i hi => h i (by omega))
    obtain ⟨a, b, hab⟩ := h n (by omega)
    refine ⟨as ++ [a], bs ++ [b], by simp [ha], by simp [hb], fun i x y hx hy => ?_⟩
    by_cases hi : i < n
    · rw [List.getElem?_append_left (by omega)] at hx hy
      exact hq i x y hx hy
    · have : i = n := by have := (List.getElem?_eq_some_iff.1 hx).1; simp [ha] at this; omega
      subst this
      rw [List.getElem?_append_right (by omega)] at hx hy
      simp [ha, hb] at hx hy
      subst hx hy
      exact hab

theorem All2.of_get {α β : Type} {R : α → β → Prop} : ∀ {as : List α} {bs : List β}, as.length = bs.length → (∀ (i : Nat) a b, as[i]? = some a → bs[i]? = some b → R a b) → All2 R as bs
  | [], [], _, _ => trivial
  | a :: as, b :: bs, hl, h => ⟨h 0 a b rfl rfl, All2.of_get (by simpa using hl) fun i x y hx hy => h (i + 1) x y (by simpa using hx) (by simpa using hy)⟩
  | [], _ :: _, hl, _ => by simp at hl
  | _ :: _, [], hl, _ => by simp at hl

theorem flatten_at {size : Nat} : ∀ {css : List (List Value)}, (∀ cs ∈ css, cs.length = size) → ∀ {j : Nat} {u : Value}, css.flatten[j]? = some u → ∃ i k cs, css[i]? = some cs ∧ cs[k]? = some u ∧ j = i * size + k
  | [], _, _, _, h => by simp at h
  | c :: css, hc, j, u, h => by
    rw [List.flatten_cons] at h
    have h0 := hc c (by simp)
    by_cases hj : j < c.length
    · rw [List.getElem?_append_left hj] at h
      exact ⟨0, j, c, rfl, h, by simp⟩
    · rw [List.getElem?_append_right (by omega)] at h
      obtain ⟨i, k, cs, h1, h2, h3⟩ := flatten_at (fun cs hm => hc cs (by simp [hm])) h
      exact ⟨i + 1, k, cs, by simpa using h1, h2, by rw [Nat.add_mul]; omega⟩

theorem Opn.slice {α : Type} {R : Rp α} {ok : α → Prop} {t e : TypeId} (ht : P.underlying t = some (.slice e)) (hc : P.cellsOf t = 1) (h : Opn P R e ok) : Opn P R.slice t (fun l => l.length ≤ maxLen ∧ ∀ x ∈ l, ok x) := by
  refine ⟨hc, fun {H enc w fuel cs x} hx => ?_⟩
  rcases DataW.trod_slice ht hx with ⟨rfl, _⟩ | ⟨a, len, cap, elems, rest, n, _, rfl, _, _, hl, hm, hlen, hel, _, _⟩
  · exact ⟨[], Rp.slice_nil, by simp [maxLen], by simp⟩
  · rw [h.cells] at hel
    have he : ∀ i, i < len → ∃ cs m, (∀ k u, cs[k]? = some u → w.cell? (a.add (i * R.size + k)) = some u) ∧ R.at_ w (fun _ => True) cs m ∧ ok m := fun i hi => by
      have h1 := hel i hi
      rw [List.getElem?_eq_getElem (by omega), Option.bind_eq_some_iff] at h1
      obtain ⟨cs, hcs, hy⟩ := h1
      obtain ⟨m, hm1, hm2⟩ := h.opens hy
      refine ⟨cs, m, fun k u hu => ?_, hm1, hm2⟩
      obtain ⟨_, c2, c3⟩ := World.cells?_some hcs
      have hk := (List.getElem?_eq_some_iff.1 hu).1
      have := c3 k (by omega)
      rw [add_of_add] at this
      rw [this, hu]
    obtain ⟨css, l, h1, h2, h3⟩ := gather len he
    have hr : R.rows w (fun _ => True) css l := All2.of_get (by omega) fun i c m hc hm => (h3 i c m hc hm).2.1
    refine ⟨l, ⟨some a, cap, css, by rw [h2], by omega, hr, ⟨by rw [flatten_len (Rp.rows_len hr), h1, h2], fun _ => ⟨a, rfl, trivial, fun j u hu => ?_⟩⟩⟩, by omega, fun x hx => ?_⟩
    · obtain ⟨i, k, cs, e1, e2, rfl⟩ := flatten_at (Rp.rows_len hr) hu
      have hi : i < l.length := by have := (List.getElem?_eq_some_iff.1 e1).1; omega
      exact (h3 i cs _ e1 (List.getElem?_eq_getElem hi)).1 k u e2
    · obtain ⟨i, hi⟩ := List.getElem?_of_mem hx
      have hi' : i < css.length := by have := (List.getElem?_eq_some_iff.1 hi).1; omega
      exact (h3 i _ x (List.getElem?_eq_getElem hi') hi).2.2
end

end Go.Proofs.YtlijlapkhimaoaaGreatDoor
