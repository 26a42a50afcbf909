/- The evaluator, 2: what values and memory stand for. No program in sight. -/
import Derived.Test.YtlijlapkhimaoaaGreatDoorE1
import Derived.Test.YtlijlapkhimaoaaGreatDoorY1
import Derived.Deep.AppendSrc
namespace Go.Proofs.YtlijlapkhimaoaaGreatDoor
open Go Go.RowKit

section
variable {α : Type}
theorem Tr.get_e (i : Nat) : (Tr.e : Tr α).get i = none := rfl
theorem Tr.get_n (l : Tr α) (v : Option α) (r : Tr α) (i : Nat) : (Tr.n l v r).get i = if i = 0 then v else if i % 2 = 1 then l.get (i / 2) else r.get (i / 2 - 1) := by
  conv => lhs; unfold Tr.get
  cases h : Nat.beq i 0 with
  | true => rw [if_pos (Nat.eq_of_beq_eq_true h)]
  | false =>
    rw [if_neg (Nat.ne_of_beq_eq_false h)]
    show (match Nat.beq (i % 2) 1 with | true => _ | false => _) = _
    cases h1 : Nat.beq (i % 2) 1 with
    | true => rw [if_pos (Nat.eq_of_beq_eq_true h1)]; rfl
    | false => rw [if_neg (Nat.ne_of_beq_eq_false h1)]; rfl
theorem Tr.setN_e (x : Option α) (k i : Nat) : Tr.setN x (k + 1) .e i = if i = 0 then .n .e x .e else if i % 2 = 1 then .n (Tr.setN x k .e (i / 2)) none .e else .n .e none (Tr.setN x k .e (i / 2 - 1)) := by
  conv => lhs; unfold Tr.setN
  cases h : Nat.beq i 0 with
  | true => rw [if_pos (Nat.eq_of_beq_eq_true h)]
  | false =>
    rw [if_neg (Nat.ne_of_beq_eq_false h)]
    show (match Nat.beq (i % 2) 1 with | true => _ | false => _) = _
    cases h1 : Nat.beq (i % 2) 1 with
    | true => rw [if_pos (Nat.eq_of_beq_eq_true h1)]; rfl
    | false => rw [if_neg (Nat.ne_of_beq_eq_false h1)]; rfl
theorem Tr.setN_n (x : Option α) (k i : Nat) (l : Tr α) (v : Option α) (r : Tr α) : Tr.setN x (k + 1) (.n l v r) i = if i = 0 then .n l x r else if i % 2 = 1 then .n (Tr.setN x k l (i / 2)) v r else .n l v (Tr.setN x k r (i / 2 - 1)) := by
  conv => lhs; unfold Tr.setN
  cases h : Nat.beq i 0 with
  | true => rw [if_pos (Nat.eq_of_beq_eq_true h)]
  | false =>
    rw [if_neg (Nat.ne_of_beq_eq_false h)]
    show (match Nat.beq (i % 2) 1 with | true => _ | false => _) = _
    cases h1 : Nat.beq (i % 2) 1 with
    | true => rw [if_pos (Nat.eq_of_beq_eq_true h1)]; rfl
    | false => rw [if_neg (Nat.ne_of_beq_eq_false h1)]; rfl
theorem Tr.get_setN (x : Option α) : ∀ (k : Nat) (t : Tr α) (i j : Nat), i < k → (Tr.setN x k t i).get j = if j = i then x else t.get j
  | 0, _, _, _, h => by omega
  | k + 1, .e, i, j, h => by
    rw [Tr.setN_e]
    by_cases hi : i = 0
    · rw [if_pos hi, Tr.get_n]
      subst hi
      by_cases hj : j = 0
      · rw [if_pos hj, if_pos hj]
      · rw [if_neg hj, if_neg hj]; simp [Tr.get_e]
    · rw [if_neg hi]
      by_cases hi2 : i % 2 = 1
      · rw [if_pos hi2, Tr.get_n, Tr.get_setN x k .e (i / 2) (j / 2) (by omega)]
        by_cases hj : j = 0
        · rw [if_pos hj, if_neg (by omega)]; rfl
        · rw [if_neg hj]
          by_cases hj2 : j % 2 = 1
          · rw [if_pos hj2]
            by_cases e : j = i
            · rw [if_pos (by omega), if_pos e]
            · rw [if_neg (by omega), if_neg e]; rfl
          · rw [if_neg hj2, if_neg (by omega)]; rfl
      · rw [if_neg hi2, Tr.get_n, Tr.get_setN x k .e (i / 2 - 1) (j / 2 - 1) (by omega)]
        by_cases hj : j = 0
        · rw [if_pos hj, if_neg (by omega)]; rfl
        · rw [if_neg hj]
          by_cases hj2 : j % 2 = 1
          · rw [if_pos hj2, if_neg (by omega)]; rfl
          · rw [if_neg hj2]
            by_cases e : j = i
            · rw [if_pos (by omega), if_pos e]
            · rw [if_neg (by omega), if_neg e]; rfl
  | k + 1, .n l v r, i, j, h => by
    rw [Tr.setN_n]
    by_cases hi : i = 0
    · rw [if_pos hi, Tr.get_n, Tr.get_n]
      subst hi
      by_cases hj : j = 0
      · rw [if_pos hj, if_pos hj]
      · rw [if_neg hj, if_neg hj, if_neg hj]
    · rw [if_neg hi]
      by_cases hi2 : i % 2 = 1
      · rw [if_pos hi2, Tr.get_n, Tr.get_setN x k l (i / 2) (j / 2) (by omega), Tr.get_n]
        by_cases hj : j = 0
        · rw [if_pos hj, if_neg (by omega), if_pos hj]
        · rw [if_neg hj, if_neg hj]
          by_cases hj2 : j % 2 = 1
          · rw [if_pos hj2, if_pos hj2]
            by_cases e : j = i
            · rw [if_pos (by omega), if_pos e]
            · rw [if_neg (by omega), if_neg e]
          · rw [if_neg hj2, if_neg hj2, if_neg (by omega)]
      · rw [if_neg hi2, Tr.get_n, Tr.get_setN x k r (i / 2 - 1) (j / 2 - 1) (by omega), Tr.get_n]
        by_cases hj : j = 0
        · rw [if_pos hj, if_neg (by omega), if_pos hj]
        · rw [if_neg hj, if_neg hj]
          by_cases hj2 : j % 2 = 1
          · rw [if_pos hj2, if_pos hj2, if_neg (by omega)]
          · rw [if_neg hj2, if_neg hj2]
            by_cases e : j = i
            · rw [if_pos (by omega), if_pos e]
            · rw [if_neg (by omega), if_neg e]
theorem Tr.get_put (t : Tr α) (i j : Nat) (x : Option α) : (t.put i x).get j = if j = i then x else t.get j := Tr.get_setN x (i + 1) t i j (by omega)
end

/-! ### values -/
/-- what names stand for: places and rooms; other things; what functions are -/
structure Nm where
  f : Nat → Option Nat
  x : Nat → Option Dat
  u : Nat → List Dat → Option Dat
instance : CoeFun Nm fun _ => Nat → Option Nat := ⟨Nm.f⟩
structure Nm.le (ν ν' : Nm) : Prop where
  f : ∀ i g, ν i = some g → ν' i = some g
  x : ∀ i d, ν.x i = some d → ν'.x i = some d
  u : ∀ o l d, ν.u o l = some d → ν'.u o l = some d
  xe : ν'.x = ν.x
  ue : ν'.u = ν.u
instance (ν ν' : Nm) : CoeFun (Nm.le ν ν') fun _ => ∀ i g, ν i = some g → ν' i = some g := ⟨Nm.le.f⟩
theorem Nm.le.refl (ν : Nm) : Nm.le ν ν := ⟨fun _ _ h => h, fun _ _ h => h, fun _ _ _ h => h, rfl, rfl⟩
theorem Nm.le.trans {a b c : Nm} (h : Nm.le a b) (k : Nm.le b c) : Nm.le a c := ⟨fun i g hi => k i g (h i g hi), fun i g hi => k.x i g (h.x i g hi), fun o l d hd => k.u o l d (h.u o l d hd), k.xe.trans h.xe, k.ue.trans h.ue⟩

def capOf (ν : Nm) : Cap → Option Nat
  | .k n => some n
  | .u c m => match ν c with
    | some n => if m ≤ n then some (n - m) else none
    | none => none
def fnOf (ν : Nm) : AFn → Option Fn
  | .func f => some (.func f)
  | .yield l => match ν l with
    | some g => some (.yield g)
    | none => none

/-- arithmetic over data -/
def binZ (op : BinOp) (k : IntKind) (x y : Int) : Option Dat :=
  match intBinA op k x y with
  | some (.int _ n) => some (.n n)
  | some (.bool b) => some (.n (if b then 1 else 0))
  | _ => none
mutual
def denT (ν : Nm) : Tm → Option Dat
  | .c n => some (.n n)
  | .x i => ν.x i
  | .bin o k a b => match denT ν a, denT ν b with
    | some (.n x), some (.n y) => binZ o k x y
    | _, _ => none
  | .conv k a => match denT ν a with
    | some (.n x) => some (.n (k.wrap x))
    | _ => none
  | .f o l => match denTs ν l with
    | some ds => ν.u o ds
    | none => none
def denTs (ν : Nm) : List Tm → Option (List Dat)
  | [] => some []
  | t :: l => match denT ν t, denTs ν l with
    | some d, some ds => some (d :: ds)
    | _, _ => none
end
mutual
theorem denT_mono {ν ν' : Nm} (h : Nm.le ν ν') : ∀ (t : Tm) (d : Dat), denT ν t = some d → denT ν' t = some d
  | .c _, _, hd => by simpa [denT] using hd
  | .x i, d, hd => by simp only [denT] at hd ⊢; exact h.x i d hd
  | .bin o k a b, d, hd => by
    simp only [denT] at hd ⊢
    cases ha : denT ν a with
    | none => rw [ha] at hd; cases hd
    | some x =>
      cases hb : denT ν b with
      | none => rw [ha, hb] at hd; cases x <;> cases hd
      | some y => rw [ha, hb] at hd; rw [denT_mono h a x ha, denT_mono h b y hb]; exact hd
  | .conv k a, d, hd => by
    simp only [denT] at hd ⊢
    cases ha : denT ν a with
    | none => rw [ha] at hd; cases hd
    | some x => rw [ha] at hd; rw [denT_mono h a x ha]; exact hd
  | .f o l, d, hd => by
    simp only [denT] at hd ⊢
    cases ha : denTs ν l with
    | none => rw [ha] at hd; cases hd
    | some x => rw [ha] at hd; rw [denTs_mono h l x ha]; exact h.u o x d hd
theorem denTs_mono {ν ν' : Nm} (h : Nm.le ν ν') : ∀ (t : List Tm) (d : List Dat), denTs ν t = some d → denTs ν' t = some d
  | [], _, hd => by simpa [denTs] using hd
  | a :: l, d, hd => by
    simp only [denTs] at hd ⊢
    cases ha : denT ν a with
    | none => rw [ha] at hd; cases hd
    | some x =>
      cases hb : denTs ν l with
      | none => rw [ha, hb] at hd; cases hd
      | some y => rw [ha, hb] at hd; rw [denT_mono h a x ha, denTs_mono h l y hb]; exact hd
end
mutual
def den (ν : Nm) : AV → Option Value
  | .bool b => some (.bool b)
  | .int k n => some (.int k n)
  | .str s => some (.string ⟨s.toArray⟩)
  | .nptr => some (.pointer none)
  | .ptr i off => match ν i with
    | some g => some (.pointer (some ⟨g, off, none⟩))
    | none => none
  | .nslice => some (.slice none 0 0)
  | .slice i off len c => match ν i, capOf ν c with
    | some g, some n => if len ≤ n then some (.slice (some ⟨g, off, none⟩) len n) else none
    | _, _ => none
  | .nmap => some (.map none)
  | .map i => match ν i with
    | some g => some (.map (some g))
    | none => none
  | .func f first cap => match fnOf ν f, denL ν first, denL ν cap with
    | some fn, some a, some b => some (.func fn a.toArray b.toArray)
    | _, _, _ => none
  | .nfunc => some .nilFunc
  | .iface t v => match den ν v with
    | some V => some (.iface t V)
    | none => none
  | .niface => some .nilIface
  | .agg l => match denL ν l with
    | some L => some (.agg L.toArray)
    | none => none
  | .tup l => match denL ν l with
    | some L => some (.tuple L.toArray)
    | none => none
  | .ext i => match ν.x i with
    | some (.v v) => if v.oneCell' = true then some v else none
    | _ => none
  | .glob g off => some (.pointer (some ⟨g, off, none⟩))
  | .sym k t => match denT ν t with
    | some (.n n) => some (.int k n)
    | _ => none
  | .symB t => match denT ν t with
    | some (.n n) => some (.bool (decide (n ≠ 0)))
    | _ => none
  | .tail i off o2 len c m => match ν i, capOf ν (.u c m) with
    | some g, some n => if n = len then some (.slice (some ⟨g, off, none⟩) 0 0) else some (.slice (some ⟨g, o2, none⟩) 0 (n - len))
    | _, _ => none
def denL (ν : Nm) : List AV → Option (List Value)
  | [] => some []
  | v :: l => match den ν v, denL ν l with
    | some V, some L => some (V :: L)
    | _, _ => none
end

theorem capOf_mono {ν ν' : Nm} (h : Nm.le ν ν') {c : Cap} {n : Nat} (hc : capOf ν c = some n) : capOf ν' c = some n := by
  cases c with
  | k m => exact hc
  | u c m =>
    simp only [capOf] at hc ⊢
    cases hn : ν c with
    | none => rw [hn] at hc; cases hc
    | some g => rw [hn] at hc; rw [h c g hn]; exact hc
theorem fnOf_mono {ν ν' : Nm} (h : Nm.le ν ν') {c : AFn} {n : Fn} (hc : fnOf ν c = some n) : fnOf ν' c = some n := by
  cases c with
  | func m => exact hc
  | yield c =>
    simp only [fnOf] at hc ⊢
    cases hn : ν c with
    | none => rw [hn] at hc; cases hc
    | some g => rw [hn] at hc; rw [h c g hn]; exact hc

mutual
theorem den_mono {ν ν' : Nm} (h : Nm.le ν ν') : ∀ (v : AV) (V : Value), den ν v = some V → den ν' v = some V
  | .bool _, _, hv => by simpa [den] using hv
  | .int _ _, _, hv => by simpa [den] using hv
  | .str _, _, hv => by simpa [den] using hv
  | .nptr, _, hv => by simpa [den] using hv
  | .ptr i off, V, hv => by
    simp only [den] at hv ⊢
    cases hn : ν i with
    | none => rw [hn] at hv; cases hv
    | some g => rw [hn] at hv; rw [h i g hn]; exact hv
  | .nslice, _, hv => by simpa [den] using hv
  | .slice i off len c, V, hv => by
    simp only [den] at hv ⊢
    cases hn : ν i with
    | none => rw [hn] at hv; cases hv
    | some g =>
      rw [hn] at hv; rw [h i g hn]
      cases hc : capOf ν c with
      | none => rw [hc] at hv; cases hv
      | some n => rw [hc] at hv; rw [capOf_mono h hc]; exact hv
  | .nmap, _, hv => by simpa [den] using hv
  | .map i, V, hv => by
    simp only [den] at hv ⊢
    cases hn : ν i with
    | none => rw [hn] at hv; cases hv
    | some g => rw [hn] at hv; rw [h i g hn]; exact hv
  | .func f a b, V, hv => by
    simp only [den] at hv ⊢
    cases hf : fnOf ν f with
    | none => rw [hf] at hv; cases hv
    | some fn =>
      rw [hf] at hv; rw [fnOf_mono h hf]
      cases ha : denL ν a with
      | none => rw [ha] at hv; cases hv
      | some A =>
        rw [ha] at hv; rw [denL_mono h a A ha]
        cases hb : denL ν b with
        | none => rw [hb] at hv; cases hv
        | some B => rw [hb] at hv; rw [denL_mono h b B hb]; exact hv
  | .nfunc, _, hv => by simpa [den] using hv
  | .iface t v, V, hv => by
    simp only [den] at hv ⊢
    cases hn : den ν v with
    | none => rw [hn] at hv; cases hv
    | some U => rw [hn] at hv; rw [den_mono h v U hn]; exact hv
  | .niface, _, hv => by simpa [den] using hv
  | .agg l, V, hv => by
    simp only [den] at hv ⊢
    cases hn : denL ν l with
    | none => rw [hn] at hv; cases hv
    | some U => rw [hn] at hv; rw [denL_mono h l U hn]; exact hv
  | .tup l, V, hv => by
    simp only [den] at hv ⊢
    cases hn : denL ν l with
    | none => rw [hn] at hv; cases hv
    | some U => rw [hn] at hv; rw [denL_mono h l U hn]; exact hv
  | .ext i, V, hv => by
    simp only [den] at hv ⊢
    cases hn : ν.x i with
    | none => rw [hn] at hv; cases hv
    | some d => rw [hn] at hv; rw [h.x i d hn]; exact hv
  | .glob _ _, _, hv => by simpa [den] using hv
  | .sym k t, V, hv => by
    simp only [den] at hv ⊢
    cases hn : denT ν t with
    | none => rw [hn] at hv; cases hv
    | some d => rw [hn] at hv; rw [denT_mono h t d hn]; exact hv
  | .symB t, V, hv => by
    simp only [den] at hv ⊢
    cases hn : denT ν t with
    | none => rw [hn] at hv; cases hv
    | some d => rw [hn] at hv; rw [denT_mono h t d hn]; exact hv
  | .tail i off o2 len c m, V, hv => by
    simp only [den] at hv ⊢
    cases hn : ν i with
    | none => rw [hn] at hv; cases hv
    | some g =>
      rw [hn] at hv; rw [h i g hn]
      cases hc : capOf ν (.u c m) with
      | none => rw [hc] at hv; cases hv
      | some n => rw [hc] at hv; rw [capOf_mono h hc]; exact hv
theorem denL_mono {ν ν' : Nm} (h : Nm.le ν ν') : ∀ (l : List AV) (L : List Value), denL ν l = some L → denL ν' l = some L
  | [], _, hl => by simpa [denL] using hl
  | v :: l, L, hl => by
    simp only [denL] at hl ⊢
    cases hv : den ν v with
    | none => rw [hv] at hl; cases hl
    | some V =>
      rw [hv] at hl; rw [den_mono h v V hv]
      cases hr : denL ν l with
      | none => rw [hr] at hl; cases hl
      | some R => rw [hr] at hl; rw [denL_mono h l R hr]; exact hl
end

section
variable {ν : Nm}
theorem denL_nil {L : List Value} (h : denL ν [] = some L) : L = [] := by simpa [denL] using h.symm
theorem denL_cons {v : AV} {l : List AV} {L : List Value} (h : denL ν (v :: l) = some L) : ∃ V R, den ν v = some V ∧ denL ν l = some R ∧ L = V :: R := by
  simp only [denL] at h
  cases hv : den ν v with
  | none => rw [hv] at h; cases h
  | some V =>
    rw [hv] at h
    cases hr : denL ν l with
    | none => rw [hr] at h; cases h
    | some R => rw [hr] at h; injection h with h; exact ⟨V, R, rfl, rfl, h.symm⟩
theorem denL_mk {v : AV} {l : List AV} {V : Value} {R : List Value} (h : den ν v = some V) (k : denL ν l = some R) : denL ν (v :: l) = some (V :: R) := by simp [denL, h, k]
theorem denL_len : ∀ {l : List AV} {L : List Value}, denL ν l = some L → L.length = l.length
  | [], _, h => by rw [denL_nil h]; rfl
  | v :: l, _, h => by
    obtain ⟨V, R, _, hr, rfl⟩ := denL_cons h
    simp [denL_len hr]
theorem denL_get : ∀ {l : List AV} {L : List Value}, denL ν l = some L → ∀ {i : Nat} {v : AV}, l[i]? = some v → ∃ V, L[i]? = some V ∧ den ν v = some V
  | [], _, h, i, v, hi => by simp at hi
  | u :: l, _, h, i, v, hi => by
    obtain ⟨V, R, hv, hr, rfl⟩ := denL_cons h
    cases i with
    | zero => simp at hi; subst hi; exact ⟨V, rfl, hv⟩
    | succ i => simpa using denL_get hr (i := i) (by simpa using hi)
theorem denL_append : ∀ {l m : List AV} {L M : List Value}, denL ν l = some L → denL ν m = some M → denL ν (l ++ m) = some (L ++ M)
  | [], m, L, M, h, k => by rw [denL_nil h]; exact k
  | v :: l, m, L, M, h, k => by
    obtain ⟨V, R, hv, hr, rfl⟩ := denL_cons h
    exact denL_mk hv (denL_append hr k)
theorem denL_take : ∀ {l : List AV} {L : List Value} (n : Nat), denL ν l = some L → denL ν (l.take n) = some (L.take n)
  | [], _, n, h => by rw [denL_nil h]; simp [denL]
  | v :: l, _, 0, h => by simp [denL]
  | v :: l, _, n + 1, h => by
    obtain ⟨V, R, hv, hr, rfl⟩ := denL_cons h
    exact denL_mk hv (denL_take n hr)
theorem denL_drop : ∀ {l : List AV} {L : List Value} (n : Nat), denL ν l = some L → denL ν (l.drop n) = some (L.drop n)
  | [], _, n, h => by rw [denL_nil h]; simp [denL]
  | v :: l, _, 0, h => h
  | v :: l, _, n + 1, h => by
    obtain ⟨V, R, hv, hr, rfl⟩ := denL_cons h
    exact denL_drop n hr
theorem denL_set : ∀ {l : List AV} {L : List Value} {v : AV} {V : Value} (n : Nat), denL ν l = some L → den ν v = some V → denL ν (l.set n v) = some (L.set n V)
  | [], _, _, _, n, h, _ => by rw [denL_nil h]; simp [denL]
  | u :: l, _, v, V, 0, h, k => by
    obtain ⟨U, R, hv, hr, rfl⟩ := denL_cons h
    exact denL_mk k hr
  | u :: l, _, v, V, n + 1, h, k => by
    obtain ⟨U, R, hv, hr, rfl⟩ := denL_cons h
    exact denL_mk hv (denL_set n hr k)
theorem denL_over : ∀ {vs : List AV} {l : List AV} {L Vs : List Value} (off : Nat), denL ν l = some L → denL ν vs = some Vs → denL ν (overL l off vs) = some (overlay L off Vs)
  | [], l, L, Vs, off, h, k => by rw [denL_nil k]; exact h
  | v :: vs, l, L, _, off, h, k => by
    obtain ⟨V, R, hv, hr, rfl⟩ := denL_cons k
    exact denL_over (off + 1) (denL_set off h hv) hr
theorem cutL_spec {l r : List AV} {off n : Nat} (h : cutL l off n = some r) : r = (l.drop off).take n ∧ r.length = n := by
  unfold cutL at h
  simp only at h
  split at h
  · rename_i he
    injection h with h
    subst h
    exact ⟨rfl, Nat.eq_of_beq_eq_true he⟩
  · cases h
theorem denL_cut {l r : List AV} {L : List Value} {off n : Nat} (hl : denL ν l = some L) (h : cutL l off n = some r) : denL ν r = some ((L.drop off).take n) ∧ ((L.drop off).take n).length = n := by
  obtain ⟨rfl, hn⟩ := cutL_spec h
  have h1 := denL_take n (denL_drop off hl)
  exact ⟨h1, by rw [denL_len h1]; exact hn⟩
theorem one_den {v : AV} {V : Value} (h : oneA v = true) (hv : den ν v = some V) : V.oneCell' = true ∧ plainCell V = true ∧ V.cells = #[V] := by
  cases v
  case agg => cases h
  case tup => cases h
  case ext i =>
    simp only [den] at hv
    split at hv
    · rename_i v _
      split at hv
      · rename_i ho
        injection hv with hv
        subst hv
        cases v <;> first | exact ⟨rfl, rfl, rfl⟩ | (simp [Value.oneCell'] at ho)
      · cases hv
    · cases hv
  all_goals
    simp only [den] at hv
    repeat' split at hv
  all_goals first | (cases hv; done) | skip
  all_goals
    injection hv with hv
    subst hv
  all_goals exact ⟨rfl, rfl, rfl⟩
theorem denL_one : ∀ {l : List AV} {L : List Value}, l.all oneA = true → denL ν l = some L → (∀ u ∈ L, u.oneCell' = true) ∧ L.all plainCell = true
  | [], _, _, h => by rw [denL_nil h]; simp
  | v :: l, _, ha, h => by
    obtain ⟨V, R, hv, hr, rfl⟩ := denL_cons h
    simp only [List.all_cons, Bool.and_eq_true] at ha
    obtain ⟨h1, h2⟩ := denL_one ha.2 hr
    obtain ⟨h3, h4, _⟩ := one_den ha.1 hv
    exact ⟨fun u hu => by rcases List.mem_cons.1 hu with rfl | hu; exact h3; exact h1 u hu, by simp [h4, h2]⟩
theorem cells_den {v : AV} {V : Value} (hv : den ν v = some V) (ha : (cellsA v).all oneA = true) : denL ν (cellsA v) = some V.cells.toList := by
  cases v
  case agg l =>
    simp only [den] at hv
    split at hv
    · rename_i L hL
      injection hv with hv
      subst hv
      simpa [cellsA, Value.cells] using hL
    · cases hv
  all_goals
    simp only [cellsA, List.all_cons, List.all_nil, Bool.and_true] at ha
    rw [show cellsA _ = [_] from rfl, (one_den ha hv).2.2]
    simp [denL, hv]
theorem agg_den {l : List AV} {V : Value} (hv : den ν (.agg l) = some V) : ∃ L, denL ν l = some L ∧ V = .agg L.toArray := by
  simp only [den] at hv
  split at hv
  · rename_i L hL
    injection hv with hv
    exact ⟨L, hL, hv.symm⟩
  · cases hv
theorem tup_den {l : List AV} {V : Value} (hv : den ν (.tup l) = some V) : ∃ L, denL ν l = some L ∧ V = .tuple L.toArray := by
  simp only [den] at hv
  split at hv
  · rename_i L hL
    injection hv with hv
    exact ⟨L, hL, hv.symm⟩
  · cases hv
theorem sym_den {k : IntKind} {t : Tm} {V : Value} (hv : den ν (.sym k t) = some V) : ∃ n, denT ν t = some (.n n) ∧ V = .int k n := by
  simp only [den] at hv
  split at hv
  · rename_i n hn
    injection hv with hv
    exact ⟨n, hn, hv.symm⟩
  · cases hv
theorem symB_den {t : Tm} {V : Value} (hv : den ν (.symB t) = some V) : ∃ n, denT ν t = some (.n n) ∧ V = .bool (decide (n ≠ 0)) := by
  simp only [den] at hv
  split at hv
  · rename_i n hn
    injection hv with hv
    exact ⟨n, hn, hv.symm⟩
  · cases hv
theorem ptr_den {i off : Nat} {V : Value} (hv : den ν (.ptr i off) = some V) : ∃ g, ν i = some g ∧ V = .pointer (some ⟨g, off, none⟩) := by
  simp only [den] at hv
  split at hv
  · rename_i g hg
    injection hv with hv
    exact ⟨g, hg, hv.symm⟩
  · cases hv
theorem map_den {i : Nat} {V : Value} (hv : den ν (.map i) = some V) : ∃ g, ν i = some g ∧ V = .map (some g) := by
  simp only [den] at hv
  split at hv
  · rename_i g hg
    injection hv with hv
    exact ⟨g, hg, hv.symm⟩
  · cases hv
theorem slice_den {i off len : Nat} {c : Cap} {V : Value} (hv : den ν (.slice i off len c) = some V) : ∃ g n, ν i = some g ∧ capOf ν c = some n ∧ len ≤ n ∧ V = .slice (some ⟨g, off, none⟩) len n := by
  simp only [den] at hv
  split at hv
  · rename_i g n hg hn
    split at hv
    · injection hv with hv
      exact ⟨g, n, hg, hn, ‹_›, hv.symm⟩
    · cases hv
  · cases hv
theorem func_den {f : AFn} {a b : List AV} {V : Value} (hv : den ν (.func f a b) = some V) : ∃ fn A B, fnOf ν f = some fn ∧ denL ν a = some A ∧ denL ν b = some B ∧ V = .func fn A.toArray B.toArray := by
  simp only [den] at hv
  split at hv
  · rename_i fn A B hf hA hB
    injection hv with hv
    exact ⟨fn, A, B, hf, hA, hB, hv.symm⟩
  · cases hv

theorem ofC_den {v : Value} {a : AV} (h : ofC v = some a) : den ν a = some v := by
  unfold ofC at h
  split at h <;> first
    | (injection h with h; subst h; simp [den, denL, fnOf]; done)
    | (cases h; done)
    | (rename_i s; injection h with h; subst h; cases s; simp [den])
theorem mapO_ofC : ∀ {l : List Value} {m : List AV}, mapO ofC l = some m → denL ν m = some l
  | [], m, h => by simp only [mapO, Option.some.injEq] at h; subst h; rfl
  | v :: l, m, h => by
    simp only [mapO] at h
    split at h
    · cases h
    · rename_i y hy
      split at h
      · cases h
      · rename_i r hr
        injection h with h
        subst h
        exact denL_mk (ofC_den hy) (mapO_ofC hr)
theorem ofV_den {v : Value} {a : AV} (h : ofV v = some a) : den ν a = some v := by
  unfold ofV at h
  split at h
  · rename_i cs
    rw [Option.map_eq_some_iff] at h
    obtain ⟨m, hm, rfl⟩ := h
    simp [den, mapO_ofC hm]
  · rename_i cs
    rw [Option.map_eq_some_iff] at h
    obtain ⟨m, hm, rfl⟩ := h
    simp [den, mapO_ofC hm]
  · exact ofC_den h
end

end Go.Proofs.YtlijlapkhimaoaaGreatDoor
