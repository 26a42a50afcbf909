/- The evaluator, 2: what values and memory stand for. No program in sight. -/
import Derived.Test.YtpifcidnpbkaoaaGreatDoorGa
import Derived.Deep.AppendSrc
import Derived.RangeFuncRecord
import Derived.Laws.Strings
namespace Go.Proofs.YtpifcidnpbkaoaaGreatDoor
open Go Go.RowKit

section
variable {α : Type}
theorem Tr.get_e (i : Nat) : (Tr.e : Tr α).get i = none := rfl
theorem Tr.get_n (l : Tr α) (v : Option α) (r : Tr α) (i : Nat) : (Tr.n l v r).get i = if i = 0 then v else if i % 2 = 1 then l.get (i / 2) else r.get (i / 2 - 1) := by
  conv => lhs; unfold Tr.get
  cases h : Nat.beq i 0 with
  | true => rw [if_pos (Nat.eq_of_beq_eq_true h)]
  | false =>
    rw [if_neg (Nat.ne_of_beq_eq_false h)]
    show (match Nat.beq (i % 2) 1 with | true => _ | false => _) = _
    cases h1 : Nat.beq (i % 2) 1 with
    | true => rw [if_pos (Nat.eq_of_beq_eq_true h1)]; rfl
    | false => rw [if_neg (Nat.ne_of_beq_eq_false h1)]; rfl
theorem Tr.setN_e (x : Option α) (k i : Nat) : Tr.setN x (k + 1) .e i = if i = 0 then .n .e x .e else if i % 2 = 1 then .n (Tr.setN x k .e (i / 2)) none .e else .n .e none (Tr.setN x k .e (i / 2 - 1)) := by
  conv => lhs; unfold Tr.setN
  cases h : Nat.beq i 0 with
  | true => rw [if_pos (Nat.eq_of_beq_eq_true h)]
  | false =>
    rw [if_neg (Nat.ne_of_beq_eq_false h)]
    show (match Nat.beq (i % 2) 1 with | true => _ | false => _) = _
    cases h1 : Nat.beq (i % 2) 1 with
    | true => rw [if_pos (Nat.eq_of_beq_eq_true h1)]; rfl
    | false => rw [if_neg (Nat.ne_of_beq_eq_false h1)]; rfl
theorem Tr.setN_n (x : Option α) (k i : Nat) (l : Tr α) (v : Option α) (r : Tr α) : Tr.setN x (k + 1) (.n l v r) i = if i = 0 then .n l x r else if i % 2 = 1 then .n (Tr.setN x k l (i / 2)) v r else .n l v (Tr.setN x k r (i / 2 - 1)) := by
  conv => lhs; unfold Tr.setN
  cases h : Nat.beq i 0 with
  | true => rw [if_pos (Nat.eq_of_beq_eq_true h)]
  | false =>
    rw [if_neg (Nat.ne_of_beq_eq_false h)]
    show (match Nat.beq (i % 2) 1 with | true => _ | false => _) = _
    cases h1 : Nat.beq (i % 2) 1 with
    | true => rw [if_pos (Nat.eq_of_beq_eq_true h1)]; rfl
    | false => rw [if_neg (Nat.ne_of_beq_eq_false h1)]; rfl
theorem Tr.get_setN (x : Option α) : ∀ (k : Nat) (t : Tr α) (i j : Nat), i < k → (Tr.setN x k t i).get j = if j = i then x else t.get j
  | 0, _, _, _, h => by omega
  | k + 1, .e, i, j, h => by
    rw [Tr.setN_e]
    by_cases hi : i = 0
    · rw [if_pos hi, Tr.get_n]
      subst hi
      by_cases hj : j = 0
      · rw [if_pos hj, if_pos hj]
      · rw [if_neg hj, if_neg hj]; simp [Tr.get_e]
    · rw [if_neg hi]
      by_cases hi2 : i % 2 = 1
      · rw [if_pos hi2, Tr.get_n, Tr.get_setN x k .e (i / 2) (j / 2) (by omega)]
        by_cases hj : j = 0
        · rw [if_pos hj, if_neg (by omega)]; rfl
        · rw [if_neg hj]
          by_cases hj2 : j % 2 = 1
          · rw [if_pos hj2]
            by_cases e : j = i
            · rw [if_pos (by omega), if_pos e]
            · rw [if_neg (by omega), if_neg e]; rfl
          · rw [if_neg hj2, if_neg (by omega)]; rfl
      · rw [if_neg hi2, Tr.get_n, Tr.get_setN x k .e (i / 2 - 1) (j / 2 - 1) (by omega)]
        by_cases hj : j = 0
        · rw [if_pos hj, if_neg (by omega)]; rfl
        · rw [if_neg hj]
          by_cases hj2 : j % 2 = 1
          · rw [if_pos hj2, if_neg (by omega)]; rfl
          · rw [if_neg hj2]
            by_cases e : j = i
            · rw [if_pos (by omega), if_pos e]
            · rw [if_neg (by omega), if_neg e]; rfl
  | k + 1, .n l v r, i, j, h => by
    rw [Tr.setN_n]
    by_cases hi : i = 0
    · rw [if_pos hi, Tr.get_n, Tr.get_n]
      subst hi
      by_cases hj : j = 0
      · rw [if_pos hj, if_pos hj]
      · rw [if_neg hj, if_neg hj, if_neg hj]
    · rw [if_neg hi]
      by_cases hi2 : i % 2 = 1
      · rw [if_pos hi2, Tr.get_n, Tr.get_setN x k l (i / 2) (j / 2) (by omega), Tr.get_n]
        by_cases hj : j = 0
        · rw [if_pos hj, if_neg (by omega), if_pos hj]
        · rw [if_neg hj, if_neg hj]
          by_cases hj2 : j % 2 = 1
          · rw [if_pos hj2, if_pos hj2]
            by_cases e : j = i
            · rw [if_pos (by omega), if_pos e]
            · rw [if_neg (by omega), if_neg e]
          · rw [if_neg hj2, if_neg hj2, if_neg (by omega)]
      · rw [if_neg hi2, Tr.get_n, Tr.get_setN x k r (i / 2 - 1) (j / 2 - 1) (by omega), Tr.get_n]
        by_cases hj : j = 0
        · rw [if_pos hj, if_neg (by omega), if_pos hj]
        · rw [if_neg hj, if_neg hj]
          by_cases hj2 : j % 2 = 1
          · rw [if_pos hj2, if_pos hj2, if_neg (by omega)]
          · rw [if_neg hj2, if_neg hj2]
            by_cases e : j = i
            · rw [if_pos (by omega), if_pos e]
            · rw [if_neg (by omega), if_neg e]
theorem Tr.get_put (t : Tr α) (i j : Nat) (x : Option α) : (t.put i x).get j = if j = i then x else t.get j := Tr.get_setN x (i + 1) t i j (by omega)
end

/-! ### values -/
/-- what names stand for: places and rooms; other things; what functions are -/
structure Nm where
  f : Nat → Option Nat
  x : Nat → Option Dat
  u : Nat → List Dat → Option Dat
instance : CoeFun Nm fun _ => Nat → Option Nat := ⟨Nm.f⟩
structure Nm.le (ν ν' : Nm) : Prop where
  f : ∀ i g, ν i = some g → ν' i = some g
  x : ∀ i d, ν.x i = some d → ν'.x i = some d
  u : ∀ o l d, ν.u o l = some d → ν'.u o l = some d
  xe : ν'.x = ν.x
  ue : ν'.u = ν.u
instance (ν ν' : Nm) : CoeFun (Nm.le ν ν') fun _ => ∀ i g, ν i = some g → ν' i = some g := ⟨Nm.le.f⟩
theorem Nm.le.refl (ν : Nm) : Nm.le ν ν := ⟨fun _ _ h => h, fun _ _ h => h, fun _ _ _ h => h, rfl, rfl⟩
theorem Nm.le.trans {a b c : Nm} (h : Nm.le a b) (k : Nm.le b c) : Nm.le a c := ⟨fun i g hi => k i g (h i g hi), fun i g hi => k.x i g (h.x i g hi), fun o l d hd => k.u o l d (h.u o l d hd), k.xe.trans h.xe, k.ue.trans h.ue⟩

def capOf (ν : Nm) : Cap → Option Nat
  | .k n => some n
  | .u c m => match ν c with
    | some n => if m ≤ n then some (n - m) else none
    | none => none
def fnOf (ν : Nm) : AFn → Option Fn
  | .func f => some (.func f)
  | .yield l => match ν l with
    | some g => some (.yield g)
    | none => none

/-- arithmetic over data -/
def binZ (op : BinOp) (k : IntKind) (x y : Int) : Option Dat :=
  match intBinA op k x y with
  | some (.int _ n) => some (.n n)
  | some (.bool b) => some (.n (if b then 1 else 0))
  | _ => none
mutual
def denT (ν : Nm) : Tm → Option Dat
  | .c n => some (.n n)
  | .x i => ν.x i
  | .bin o k a b => match denT ν a, denT ν b with
    | some (.n x), some (.n y) => binZ o k x y
    | _, _ => none
  | .conv k a => match denT ν a with
    | some (.n x) => some (.n (k.wrap x))
    | _ => none
  | .f o l => match denTs ν l with
    | some ds => ν.u o ds
    | none => none
def denTs (ν : Nm) : List Tm → Option (List Dat)
  | [] => some []
  | t :: l => match denT ν t, denTs ν l with
    | some d, some ds => some (d :: ds)
    | _, _ => none
end
mutual
theorem denT_mono {ν ν' : Nm} (h : Nm.le ν ν') : ∀ (t : Tm) (d : Dat), denT ν t = some d → denT ν' t = some d
  | .c _, _, hd => by simpa [denT] using hd
  | .x i, d, hd => by simp only [denT] at hd ⊢; exact h.x i d hd
  | .bin o k a b, d, hd => by
    simp only [denT] at hd ⊢
    cases ha : denT ν a with
    | none => rw [ha] at hd; cases hd
    | some x =>
      cases hb : denT ν b with
      | none => rw [ha, hb] at hd; cases x <;> cases hd
      | some y => rw [ha, hb] at hd; rw [denT_mono h a x ha, denT_mono h b y hb]; exact hd
  | .conv k a, d, hd => by
    simp only [denT] at hd ⊢
    cases ha : denT ν a with
    | none => rw [ha] at hd; cases hd
    | some x => rw [ha] at hd; rw [denT_mono h a x ha]; exact hd
  | .f o l, d, hd => by
    simp only [denT] at hd ⊢
    cases ha : denTs ν l with
    | none => rw [ha] at hd; cases hd
    | some x => rw [ha] at hd; rw [denTs_mono h l x ha]; exact h.u o x d hd
theorem denTs_mono {ν ν' : Nm} (h : Nm.le ν ν') : ∀ (t : List Tm) (d : List Dat), denTs ν t = some d → denTs ν' t = some d
  | [], _, hd => by simpa [denTs] using hd
  | a :: l, d, hd => by
    simp only [denTs] at hd ⊢
    cases ha : denT ν a with
    | none => rw [ha] at hd; cases hd
    | some x =>
      cases hb : denTs ν l with
      | none => rw [ha, hb] at hd; cases hd
      | some y => rw [ha, hb] at hd; rw [denT_mono h a x ha, denTs_mono h l y hb]; exact hd
end
mutual
def den (ν : Nm) : AV → Option Value
  | .bool b => some (.bool b)
  | .int k n => some (.int k n)
  | .str s => some (.string ⟨s.toArray⟩)
  | .nptr => some (.pointer none)
  | .ptr i off => match ν i with
    | some g => some (.pointer (some ⟨g, off, none⟩))
    | none => none
  | .nslice => some (.slice none 0 0)
  | .slice i off len c => match ν i, capOf ν c with
    | some g, some n => if len ≤ n then some (.slice (some ⟨g, off, none⟩) len n) else none
    | _, _ => none
  | .nmap => some (.map none)
  | .map i => match ν i with
    | some g => some (.map (some g))
    | none => none
  | .func f first cap => match fnOf ν f, denL ν first, denL ν cap with
    | some fn, some a, some b => some (.func fn a.toArray b.toArray)
    | _, _, _ => none
  | .nfunc => some .nilFunc
  | .iface t v => match den ν v with
    | some V => some (.iface t V)
    | none => none
  | .niface => some .nilIface
  | .agg l => match denL ν l with
    | some L => some (.agg L.toArray)
    | none => none
  | .tup l => match denL ν l with
    | some L => some (.tuple L.toArray)
    | none => none
  | .ext i => match ν.x i with
    | some (.v v) => if v.oneCell' = true then some v else none
    | _ => none
  | .glob g off => some (.pointer (some ⟨g, off, none⟩))
  | .sym k t => match denT ν t with
    | some (.n n) => some (.int k n)
    | _ => none
  | .symB t => match denT ν t with
    | some (.n n) => some (.bool (decide (n ≠ 0)))
    | _ => none
  | .tail i off o2 len c m => match ν i, capOf ν (.u c m) with
    | some g, some n => if n = len then some (.slice (some ⟨g, off, none⟩) 0 0) else some (.slice (some ⟨g, o2, none⟩) 0 (n - len))
    | _, _ => none
def denL (ν : Nm) : List AV → Option (List Value)
  | [] => some []
  | v :: l => match den ν v, denL ν l with
    | some V, some L => some (V :: L)
    | _, _ => none
end

theorem capOf_mono {ν ν' : Nm} (h : Nm.le ν ν') {c : Cap} {n : Nat} (hc : capOf ν c = some n) : capOf ν' c = some n := by
  cases c with
  | k m => exact hc
  | u c m =>
    simp only [capOf] at hc ⊢
    cases hn : ν c with
    | none => rw [hn] at hc; cases hc
    | some g => rw [hn] at hc; rw [h c g hn]; exact hc
theorem fnOf_mono {ν ν' : Nm} (h : Nm.le ν ν') {c : AFn} {n : Fn} (hc : fnOf ν c = some n) : fnOf ν' c = some n := by
  cases c with
  | func m => exact hc
  | yield c =>
    simp only [fnOf] at hc ⊢
    cases hn : ν c with
    | none => rw [hn] at hc; cases hc
    | some g => rw [hn] at hc; rw [h c g hn]; exact hc

mutual
theorem den_mono {ν ν' : Nm} (h : Nm.le ν ν') : ∀ (v : AV) (V : Value), den ν v = some V → den ν' v = some V
  | .bool _, _, hv => by simpa [den] using hv
  | .int _ _, _, hv => by simpa [den] using hv
  | .str _, _, hv => by simpa [den] using hv
  | .nptr, _, hv => by simpa [den] using hv
  | .ptr i off, V, hv => by
    simp only [den] at hv ⊢
    cases hn : ν i with
    | none => rw [hn] at hv; cases hv
    | some g => rw [hn] at hv; rw [h i g hn]; exact hv
  | .nslice, _, hv => by simpa [den] using hv
  | .slice i off len c, V, hv => by
    simp only [den] at hv ⊢
    cases hn : ν i with
    | none => rw [hn] at hv; cases hv
    | some g =>
      rw [hn] at hv; rw [h i g hn]
      cases hc : capOf ν c with
      | none => rw [hc] at hv; cases hv
      | some n => rw [hc] at hv; rw [capOf_mono h hc]; exact hv
  | .nmap, _, hv => by simpa [den] using hv
  | .map i, V, hv => by
    simp only [den] at hv ⊢
    cases hn : ν i with
    | none => rw [hn] at hv; cases hv
    | some g => rw [hn] at hv; rw [h i g hn]; exact hv
  | .func f a b, V, hv => by
    simp only [den] at hv ⊢
    cases hf : fnOf ν f with
    | none => rw [hf] at hv; cases hv
    | some fn =>
      rw [hf] at hv; rw [fnOf_mono h hf]
      cases ha : denL ν a with
      | none => rw [ha] at hv; cases hv
      | some A =>
        rw [ha] at hv; rw [denL_mono h a A ha]
        cases hb : denL ν b with
        | none => rw [hb] at hv; cases hv
        | some B => rw [hb] at hv; rw [denL_mono h b B hb]; exact hv
  | .nfunc, _, hv => by simpa [den] using hv
  | .iface t v, V, hv => by
    simp only [den] at hv ⊢
    cases hn : den ν v with
    | none => rw [hn] at hv; cases hv
    | some U => rw [hn] at hv; rw [den_mono h v U hn]; exact hv
  | .niface, _, hv => by simpa [den] using hv
  | .agg l, V, hv => by
    simp only [den] at hv ⊢
    cases hn : denL ν l with
    | none => rw [hn] at hv; cases hv
    | some U => rw [hn] at hv; rw [denL_mono h l U hn]; exact hv
  | .tup l, V, hv => by
    simp only [den] at hv ⊢
    cases hn : denL ν l with
    | none => rw [hn] at hv; cases hv
    | some U => rw [hn] at hv; rw [denL_mono h l U hn]; exact hv
  | .ext i, V, hv => by
    simp only [den] at hv ⊢
    cases hn : ν.x i with
    | none => rw [hn] at hv; cases hv
    | some d => rw [hn] at hv; rw [h.x i d hn]; exact hv
  | .glob _ _, _, hv => by simpa [den] using hv
  | .sym k t, V, hv => by
    simp only [den] at hv ⊢
    cases hn : denT ν t with
    | none => rw [hn] at hv; cases hv
    | some d => rw [hn] at hv; rw [denT_mono h t d hn]; exact hv
  | .symB t, V, hv => by
    simp only [den] at hv ⊢
    cases hn : denT ν t with
    | none => rw [hn] at hv; cases hv
    | some d => rw [hn] at hv; rw [denT_mono h t d hn]; exact hv
  | .tail i off o2 len c m, V, hv => by
    simp only [den] at hv ⊢
    cases hn : ν i with
    | none => rw [hn] at hv; cases hv
    | some g =>
      rw [hn] at hv; rw [h i g hn]
      cases hc : capOf ν (.u c m) with
      | none => rw [hc] at hv; cases hv
      | some n => rw [hc] at hv; rw [capOf_mono h hc]; exact hv
theorem denL_mono {ν ν' : Nm} (h : Nm.le ν ν') : ∀ (l : List AV) (L : List Value), denL ν l = some L → denL ν' l = some L
  | [], _, hl => by simpa [denL] using hl
  | v :: l, L, hl => by
    simp only [denL] at hl ⊢
    cases hv : den ν v with
    | none => rw [hv] at hl; cases hl
    | some V =>
      rw [hv] at hl; rw [den_mono h v V hv]
      cases hr : denL ν l with
      | none => rw [hr] at hl; cases hl
      | some R => rw [hr] at hl; rw [denL_mono h l R hr]; exact hl
end

section
variable {ν : Nm}
theorem denL_nil {L : List Value} (h : denL ν [] = some L) : L = [] := by simpa [denL] using h.symm
theorem denL_cons {v : AV} {l : List AV} {L : List Value} (h : denL ν (v :: l) = some L) : ∃ V R, den ν v = some V ∧ denL ν l = some R ∧ L = V :: R := by
  simp only [denL] at h
  cases hv : den ν v with
  | none => rw [hv] at h; cases h
  | some V =>
    rw [hv] at h
    cases hr : denL ν l with
    | none => rw [hr] at h; cases h
    | some R => rw [hr] at h; injection h with h; exact ⟨V, R, rfl, rfl, h.symm⟩
theorem denL_mk {v : AV} {l : List AV} {V : Value} {R : List Value} (h : den ν v = some V) (k : denL ν l = some R) : denL ν (v :: l) = some (V :: R) := by simp [denL, h, k]
theorem denL_len : ∀ {l : List AV} {L : List Value}, denL ν l = some L → L.length = l.length
  | [], _, h => by rw [denL_nil h]; rfl
  | v :: l, _, h => by
    obtain ⟨V, R, _, hr, rfl⟩ := denL_cons h
    simp [denL_len hr]
theorem denL_get : ∀ {l : List AV} {L : List Value}, denL ν l = some L → ∀ {i : Nat} {v : AV}, l[i]? = some v → ∃ V, L[i]? = some V ∧ den ν v = some V
  | [], _, h, i, v, hi => by simp at hi
  | u :: l, _, h, i, v, hi => by
    obtain ⟨V, R, hv, hr, rfl⟩ := denL_cons h
    cases i with
    | zero => simp at hi; subst hi; exact ⟨V, rfl, hv⟩
    | succ i => simpa using denL_get hr (i := i) (by simpa using hi)
theorem denL_append : ∀ {l m : List AV} {L M : List Value}, denL ν l = some L → denL ν m = some M → denL ν (l ++ m) = some (L ++ M)
  | [], m, L, M, h, k => by rw [denL_nil h]; exact k
  | v :: l, m, L, M, h, k => by
    obtain ⟨V, R, hv, hr, rfl⟩ := denL_cons h
    exact denL_mk hv (denL_append hr k)
theorem denL_take : ∀ {l : List AV} {L : List Value} (n : Nat), denL ν l = some L → denL ν (l.take n) = some (L.take n)
  | [], _, n, h => by rw [denL_nil h]; simp [denL]
  | v :: l, _, 0, h => by simp [denL]
  | v :: l, _, n + 1, h => by
    obtain ⟨V, R, hv, hr, rfl⟩ := denL_cons h
    exact denL_mk hv (denL_take n hr)
theorem denL_drop : ∀ {l : List AV} {L : List Value} (n : Nat), denL ν l = some L → denL ν (l.drop n) = some (L.drop n)
  | [], _, n, h => by rw [denL_nil h]; simp [denL]
  | v :: l, _, 0, h => h
  | v :: l, _, n + 1, h => by
    obtain ⟨V, R, hv, hr, rfl⟩ := denL_cons h
    exact denL_drop n hr
theorem denL_set : ∀ {l : List AV} {L : List Value} {v : AV} {V : Value} (n : Nat), denL ν l = some L → den ν v = some V → denL ν (l.set n v) = some (L.set n V)
  | [], _, _, _, n, h, _ => by rw [denL_nil h]; simp [denL]
  | u :: l, _, v, V, 0, h, k => by
    obtain ⟨U, R, hv, hr, rfl⟩ := denL_cons h
    exact denL_mk k hr
  | u :: l, _, v, V, n + 1, h, k => by
    obtain ⟨U, R, hv, hr, rfl⟩ := denL_cons h
    exact denL_mk hv (denL_set n hr k)
theorem denL_over : ∀ {vs : List AV} {l : List AV} {L Vs : List Value} (off : Nat), denL ν l = some L → denL ν vs = some Vs → denL ν (overL l off vs) = some (overlay L off Vs)
  | [], l, L, Vs, off, h, k => by rw [denL_nil k]; exact h
  | v :: vs, l, L, _, off, h, k => by
    obtain ⟨V, R, hv, hr, rfl⟩ := denL_cons k
    exact denL_over (off + 1) (denL_set off h hv) hr
theorem cutL_spec {l r : List AV} {off n : Nat} (h : cutL l off n = some r) : r = (l.drop off).take n ∧ r.length = n := by
  unfold cutL at h
  simp only at h
  split at h
  · rename_i he
    injection h with h
    subst h
    exact ⟨rfl, Nat.eq_of_beq_eq_true he⟩
  · cases h
theorem denL_cut {l r : List AV} {L : List Value} {off n : Nat} (hl : denL ν l = some L) (h : cutL l off n = some r) : denL ν r = some ((L.drop off).take n) ∧ ((L.drop off).take n).length = n := by
  obtain ⟨rfl, hn⟩ := cutL_spec h
  have h1 := denL_take n (denL_drop off hl)
  exact ⟨h1, by rw [denL_len h1]; exact hn⟩
theorem one_den {v : AV} {V : Value} (h : oneA v = true) (hv : den ν v = some V) : V.oneCell' = true ∧ plainCell V = true ∧ V.cells = #[V] := by
  cases v
  case agg => cases h
  case tup => cases h
  case ext i =>
    simp only [den] at hv
    split at hv
    · rename_i v _
      split at hv
      · rename_i ho
        injection hv with hv
        subst hv
        cases v <;> first | exact ⟨rfl, rfl, rfl⟩ | (simp [Value.oneCell'] at ho)
      · cases hv
    · cases hv
  all_goals
    simp only [den] at hv
    repeat' split at hv
  all_goals first | (cases hv; done) | skip
  all_goals
    injection hv with hv
    subst hv
  all_goals exact ⟨rfl, rfl, rfl⟩
theorem denL_one : ∀ {l : List AV} {L : List Value}, l.all oneA = true → denL ν l = some L → (∀ u ∈ L, u.oneCell' = true) ∧ L.all plainCell = true
  | [], _, _, h => by rw [denL_nil h]; simp
  | v :: l, _, ha, h => by
    obtain ⟨V, R, hv, hr, rfl⟩ := denL_cons h
    simp only [List.all_cons, Bool.and_eq_true] at ha
    obtain ⟨h1, h2⟩ := denL_one ha.2 hr
    obtain ⟨h3, h4, _⟩ := one_den ha.1 hv
    exact ⟨fun u hu => by rcases List.mem_cons.1 hu with rfl | hu; exact h3; exact h1 u hu, by simp [h4, h2]⟩
theorem cells_den {v : AV} {V : Value} (hv : den ν v = some V) (ha : (cellsA v).all oneA = true) : denL ν (cellsA v) = some V.cells.toList := by
  cases v
  case agg l =>
    simp only [den] at hv
    split at hv
    · rename_i L hL
      injection hv with hv
      subst hv
      simpa [cellsA, Value.cells] using hL
    · cases hv
  all_goals
    simp only [cellsA, List.all_cons, List.all_nil, Bool.and_true] at ha
    rw [show cellsA _ = [_] from rfl, (one_den ha hv).2.2]
    simp [denL, hv]
theorem agg_den {l : List AV} {V : Value} (hv : den ν (.agg l) = some V) : ∃ L, denL ν l = some L ∧ V = .agg L.toArray := by
  simp only [den] at hv
  split at hv
  · rename_i L hL
    injection hv with hv
    exact ⟨L, hL, hv.symm⟩
  · cases hv
theorem tup_den {l : List AV} {V : Value} (hv : den ν (.tup l) = some V) : ∃ L, denL ν l = some L ∧ V = .tuple L.toArray := by
  simp only [den] at hv
  split at hv
  · rename_i L hL
    injection hv with hv
    exact ⟨L, hL, hv.symm⟩
  · cases hv
theorem sym_den {k : IntKind} {t : Tm} {V : Value} (hv : den ν (.sym k t) = some V) : ∃ n, denT ν t = some (.n n) ∧ V = .int k n := by
  simp only [den] at hv
  split at hv
  · rename_i n hn
    injection hv with hv
    exact ⟨n, hn, hv.symm⟩
  · cases hv
theorem symB_den {t : Tm} {V : Value} (hv : den ν (.symB t) = some V) : ∃ n, denT ν t = some (.n n) ∧ V = .bool (decide (n ≠ 0)) := by
  simp only [den] at hv
  split at hv
  · rename_i n hn
    injection hv with hv
    exact ⟨n, hn, hv.symm⟩
  · cases hv
theorem ptr_den {i off : Nat} {V : Value} (hv : den ν (.ptr i off) = some V) : ∃ g, ν i = some g ∧ V = .pointer (some ⟨g, off, none⟩) := by
  simp only [den] at hv
  split at hv
  · rename_i g hg
    injection hv with hv
    exact ⟨g, hg, hv.symm⟩
  · cases hv
theorem map_den {i : Nat} {V : Value} (hv : den ν (.map i) = some V) : ∃ g, ν i = some g ∧ V = .map (some g) := by
  simp only [den] at hv
  split at hv
  · rename_i g hg
    injection hv with hv
    exact ⟨g, hg, hv.symm⟩
  · cases hv
theorem slice_den {i off len : Nat} {c : Cap} {V : Value} (hv : den ν (.slice i off len c) = some V) : ∃ g n, ν i = some g ∧ capOf ν c = some n ∧ len ≤ n ∧ V = .slice (some ⟨g, off, none⟩) len n := by
  simp only [den] at hv
  split at hv
  · rename_i g n hg hn
    split at hv
    · injection hv with hv
      exact ⟨g, n, hg, hn, ‹_›, hv.symm⟩
    · cases hv
  · cases hv
theorem func_den {f : AFn} {a b : List AV} {V : Value} (hv : den ν (.func f a b) = some V) : ∃ fn A B, fnOf ν f = some fn ∧ denL ν a = some A ∧ denL ν b = some B ∧ V = .func fn A.toArray B.toArray := by
  simp only [den] at hv
  split at hv
  · rename_i fn A B hf hA hB
    injection hv with hv
    exact ⟨fn, A, B, hf, hA, hB, hv.symm⟩
  · cases hv

theorem ofC_den {v : Value} {a : AV} (h : ofC v = some a) : den ν a = some v := by
  unfold ofC at h
  split at h <;> first
    | (injection h with h; subst h; simp [den, denL, fnOf]; done)
    | (cases h; done)
    | (rename_i s; injection h with h; subst h; cases s; simp [den])
theorem mapO_ofC : ∀ {l : List Value} {m : List AV}, mapO ofC l = some m → denL ν m = some l
  | [], m, h => by simp only [mapO, Option.some.injEq] at h; subst h; rfl
  | v :: l, m, h => by
    simp only [mapO] at h
    split at h
    · cases h
    · rename_i y hy
      split at h
      · cases h
      · rename_i r hr
        injection h with h
        subst h
        exact denL_mk (ofC_den hy) (mapO_ofC hr)
theorem ofV_den {v : Value} {a : AV} (h : ofV v = some a) : den ν a = some v := by
  unfold ofV at h
  split at h
  · rename_i cs
    rw [Option.map_eq_some_iff] at h
    obtain ⟨m, hm, rfl⟩ := h
    simp [den, mapO_ofC hm]
  · rename_i cs
    rw [Option.map_eq_some_iff] at h
    obtain ⟨m, hm, rfl⟩ := h
    simp [den, mapO_ofC hm]
  · exact ofC_den h
end

end Go.Proofs.YtpifcidnpbkaoaaGreatDoor

/- The symbolic machine, 2: what is known of a world, and operations in a row. No program in sight. -/
namespace Go.Proofs.YtpifcidnpbkaoaaGreatDoor
open Go.RowKit

/-- w' is w with new blocks and writes to the blocks L alone -/
structure Keep (L : List Nat) (w w' : World) : Prop where
  os : w'.os = w.os
  tape : w'.tape = w.tape
  output : w'.output = w.output
  size : w.heap.size ≤ w'.heap.size
  block : ∀ k, k < w.heap.size → k ∉ L → w'.heap[k]? = w.heap[k]?

theorem Keep.refl (L : List Nat) (w : World) : Keep L w w := ⟨rfl, rfl, rfl, Nat.le_refl _, fun _ _ _ => rfl⟩
theorem Keep.trans {L : List Nat} {a b c : World} (h : Keep L a b) (k : Keep L b c) : Keep L a c :=
  ⟨k.os.trans h.os, k.tape.trans h.tape, k.output.trans h.output, Nat.le_trans h.size k.size, fun i hi hn => (k.block i (Nat.lt_of_lt_of_le hi h.size) hn).trans (h.block i hi hn)⟩
theorem Keep.mono {L L' : List Nat} {a b : World} (h : Keep L a b) (hL : ∀ g ∈ L, g ∈ L' ∨ a.heap.size ≤ g) : Keep L' a b :=
  ⟨h.os, h.tape, h.output, h.size, fun i hi hn => h.block i hi fun hm => by
    rcases hL i hm with h1 | h1
    · exact hn h1
    · omega⟩
theorem Keep.drew (L : List Nat) (w : World) : Keep L w w.drew := ⟨rfl, rfl, rfl, Nat.le_refl _, fun _ _ _ => rfl⟩
theorem Keep.alloc (L : List Nat) (w : World) (o : Obj) : Keep L w (w.alloc o) := ⟨rfl, rfl, rfl, by simp, fun k hk _ => Below.heap_alloc _ _ _ hk⟩
theorem Keep.put {L : List Nat} (w : World) {g : Nat} (hg : g ∈ L) (off : Nat) (vs : List Value) : Keep L w (putCells w g off vs) := by
  obtain ⟨h1, h2, h3, h4⟩ := putCells_same (g := g) vs w off
  exact ⟨h2, h3, h4, by omega, fun k _ hn => putCells_heap (fun e => hn (by rw [e]; exact hg)) vs w off⟩
theorem Keep.below {w w' : World} (h : Keep [] w w') : Below w.heap.size w w' := ⟨h.os, h.tape, h.output, h.size, fun k hk => h.block k hk (by simp)⟩
theorem Keep.of_below {L : List Nat} {w w' : World} (h : Below w.heap.size w w') : Keep L w w' := ⟨h.os, h.tape, h.output, h.size, fun k hk _ => h.block k hk⟩

/-- cells that stand for something -/
structure Fact where
  α : Type
  R : Rp α
  cs : List Value
  x : α
def Fact.holds (f : Fact) (w : World) (U : Nat → Prop) : Prop := f.R.at_ w U f.cs f.x

def gs (H : List Bk) : List Nat := H.map (·.g)

/-- cells at an address: of data that are known -/
def Rng (w : World) (U : Nat → Prop) (q : Addr) (cs : List Value) : Prop := U q.block ∧ ∀ j u, cs[j]? = some u → w.cell? (q.add j) = some u

/-- a thing in memory that is known as a whole (a row that grows, a map, ..): its blocks, what is known of it; U: where its data lie -/
structure Ob where
  bs : List Nat
  ok : World → (Nat → Prop) → Prop
  keep : ∀ {w w' : World} {U U' : Nat → Prop}, (∀ b ∈ bs, w'.heap[b]? = w.heap[b]?) → Holds U w w' → (∀ b, U b → b < w.heap.size → U' b) → ok w U → ok w' U'

/-- what is known: E: cells at addresses; F: what stands for what; M: blocks for deferred calls of ranges over functions; R: things; X: blocks of others, that they write; Y: blocks of this call's callees, that they write; K: what others know, whatever the call does to its own blocks -/
structure Fc where
  E : List (Addr × List Value)
  F : List Fact
  M : List Nat := []
  R : List Ob := []
  X : List Nat := []
  Y : List Nat := []
  K : List Nat → World → Prop := fun _ _ => True
/-- the mark that a range over a function leaves among the deferred calls -/
def mark (D : Nat) : Deferred := { target := .collected D, args := #[] }
def obs (R : List Ob) : List Nat := R.flatMap (·.bs)
def Fc.ex (F : Fc) : List Nat := obs F.R ++ (F.X ++ F.Y)
/-- the call's own blocks -/
def priv (H : List Bk) (F : Fc) : List Nat := gs H ++ (obs F.R ++ (F.M ++ F.Y))
/-- what others know stands on while the call writes its own blocks alone -/
def Abide (K : List Nat → World → Prop) : Prop := ∀ Z Z' w w', (∀ g ∈ Z', g < w'.heap.size ∧ (g ∈ Z ∨ w.heap.size ≤ g)) → Keep Z w w' → K Z w → K Z' w'

/-- where data lie: in D, or in new blocks, not in those that are written -/
def dm (D : Nat → Prop) (w0 : World) (H : List Bk) (F : Fc) (w : World) : Nat → Prop := dom D w0.heap.size (gs H ++ F.ex) w

/-- What is known of the world w: w0 is the world at the call's beginning, L0 the blocks of it that the call may write; H: blocks known whole (the call's own, or of L0); F: the rest -/
structure Inv (D : Nat → Prop) (w0 : World) (L0 : List Nat) (H : List Bk) (F : Fc) (w : World) : Prop where
  has : ∀ b ∈ H, Blk w b.g b.t b.cs.toArray
  nodup : (gs H ++ obs F.R).Nodup ∧ ∀ g ∈ F.X ++ F.Y, g ∉ gs H ++ obs F.R
  keep : Keep L0 w0 w
  own : ∀ g ∈ gs H ++ F.ex, w0.heap.size ≤ g ∨ g ∈ L0
  lt : ∀ g ∈ gs H ++ F.ex, g < w.heap.size
  facts : ∀ f ∈ F.F, f.holds w (dm D w0 H F w)
  rngs : ∀ e ∈ F.E, Rng w (dm D w0 H F w) e.1 e.2
  marks : F.M.Nodup ∧ ∀ k ∈ F.M, w0.heap.size ≤ k ∧ w.heap[k]? = some (.deferred (some [])) ∧ k ∉ gs H ++ F.ex
  things : ∀ o ∈ F.R, o.ok w (dm D w0 H F w)
  known : F.K (priv H F) w ∧ Abide F.K

theorem Holds.of_keep {U : Nat → Prop} {w w' : World} {L : List Nat} (hk : Keep L w w') (hU : ∀ b, U b → b < w.heap.size → b ∉ L) : Holds U w w' := fun p u hp hc => by
  have hlt := World.block_lt_of_cell? w _ hc
  rw [World.cell?_of_block (w := w) (hk.block p.block hlt (hU _ hp hlt))]
  exact hc
theorem Rng.keep {U U' : Nat → Prop} {w w' : World} {q : Addr} {cs : List Value} (h : Rng w U q cs) (hl : q.block < w.heap.size) (hh : Holds U w w') (hU : ∀ b, U b → b < w.heap.size → U' b) : Rng w' U' q cs :=
  ⟨hU _ h.1 hl, fun j u hj => hh _ u (by rw [block_of_add]; exact h.1) (h.2 j u hj)⟩

section
variable {D : Nat → Prop} {w0 w w' : World} {L0 : List Nat} {H H' : List Bk} {F : Fc}
theorem dm_lt {b : Nat} (h : dm D w0 H F w b) : b < w.heap.size := h.1
theorem Inv.next (h : Inv D w0 L0 H F w) (hk : Keep (gs H) w w') (hH : ∀ b ∈ H', Blk w' b.g b.t b.cs.toArray) (hn : (gs H').Nodup) (hsub : ∀ g ∈ gs H', g ∈ gs H ∨ w.heap.size ≤ g) : Inv D w0 L0 H' F w' := by
  have hex : ∀ g ∈ F.ex, g ∉ gs H := fun g hg hm => by
    rcases List.mem_append.1 hg with hg | hg
    · exact (List.nodup_append.1 h.nodup.1).2.2 g hm g hg rfl
    · exact h.nodup.2 g hg (List.mem_append_left _ hm)
  have hex' : ∀ g ∈ F.ex, g ∉ gs H' := fun g hg hm => by
    rcases hsub g hm with h1 | h1
    · exact hex g hg h1
    · have := h.lt g (List.mem_append_right _ hg)
      omega
  have hho : Holds (dm D w0 H F w) w w' := Holds.of_keep hk fun b hb _ hm => hb.2.2 (List.mem_append_left _ hm)
  have hdm : ∀ b, dm D w0 H F w b → b < w.heap.size → dm D w0 H' F w' b := fun b hb _ => ⟨Nat.lt_of_lt_of_le hb.1 hk.size, hb.2.1, fun hm => by
    rcases List.mem_append.1 hm with hm | hm
    · rcases hsub b hm with h1 | h1
      · exact hb.2.2 (List.mem_append_left _ h1)
      · have := hb.1
        omega
    · exact hb.2.2 (List.mem_append_right _ hm)⟩
  refine ⟨hH, ?_, ⟨hk.os.trans h.keep.os, hk.tape.trans h.keep.tape, hk.output.trans h.keep.output, Nat.le_trans h.keep.size hk.size, fun k hlt hnot => ?_⟩, fun g hg => ?_, fun g hg => ?_, fun f hf => f.R.keep hho hdm (h.facts f hf), fun e he => (h.rngs e he).keep (h.rngs e he).1.1 hho hdm, ⟨h.marks.1, fun k hk0 => ?_⟩, fun o ho => o.keep (fun b hb => ?_) hho hdm (h.things o ho), h.known.2 _ _ w w' (fun g hg => ?_) (hk.mono fun g hg => .inl (List.mem_append_left _ hg)) h.known.1, h.known.2⟩
  · refine ⟨?_, fun g hg hm => ?_⟩
    · rw [List.nodup_append]
      exact ⟨hn, (List.nodup_append.1 h.nodup.1).2.1, fun x hx y hy e => hex' y (List.mem_append_left _ hy) (e ▸ hx)⟩
    · rcases List.mem_append.1 hm with hm | hm
      · exact hex' g (List.mem_append_right _ hg) hm
      · exact h.nodup.2 g hg (List.mem_append_right _ hm)
  · rw [← h.keep.block k hlt hnot]
    refine hk.block k (Nat.lt_of_lt_of_le hlt h.keep.size) fun hm => ?_
    rcases h.own k (List.mem_append_left _ hm) with h1 | h1
    · omega
    · exact hnot h1
  · rcases List.mem_append.1 hg with hg | hg
    · rcases hsub g hg with h1 | h1
      · exact h.own g (List.mem_append_left _ h1)
      · exact .inl (Nat.le_trans h.keep.size h1)
    · exact h.own g (List.mem_append_right _ hg)
  · rcases List.mem_append.1 hg with hg | hg
    · obtain ⟨b, hb, rfl⟩ := List.mem_map.1 hg
      exact (hH b hb).lt
    · exact Nat.lt_of_lt_of_le (h.lt g (List.mem_append_right _ hg)) hk.size
  · obtain ⟨h1, h2, h3⟩ := h.marks.2 k hk0
    have hlt : k < w.heap.size := (Array.getElem?_eq_some_iff.1 h2).1
    refine ⟨h1, ?_, fun hm => ?_⟩
    · rw [hk.block k hlt fun hm => h3 (List.mem_append_left _ hm)]
      exact h2
    · rcases List.mem_append.1 hm with hm | hm
      · rcases hsub k hm with h5 | h5
        · exact h3 (List.mem_append_left _ h5)
        · omega
      · exact h3 (List.mem_append_right _ hm)
  · have hb' : b ∈ F.ex := List.mem_append_left _ (List.mem_flatMap.2 ⟨o, ho, hb⟩)
    exact hk.block b (h.lt b (List.mem_append_right _ hb')) (hex b hb')
  · rcases List.mem_append.1 hg with hg | hg
    · refine ⟨?_, ?_⟩
      · obtain ⟨b, hb, rfl⟩ := List.mem_map.1 hg
        exact (hH b hb).lt
      · rcases hsub g hg with h1 | h1
        · exact .inl (List.mem_append_left _ h1)
        · exact .inr h1
    · refine ⟨Nat.lt_of_lt_of_le ?_ hk.size, .inl (List.mem_append_right _ hg)⟩
      rcases List.mem_append.1 hg with hg | hg
      · exact h.lt g (List.mem_append_right _ (List.mem_append_left _ hg))
      · rcases List.mem_append.1 hg with hg | hg
        · exact (Array.getElem?_eq_some_iff.1 (h.marks.2 g hg).2.1).1
        · exact h.lt g (List.mem_append_right _ (List.mem_append_right _ (List.mem_append_right _ hg)))
theorem Inv.drew (h : Inv D w0 L0 H F w) : Inv D w0 L0 H F w.drew := h.next (Keep.drew _ _) h.has (List.nodup_append.1 h.nodup.1).1 (fun _ hg => .inl hg)
theorem Inv.new (h : Inv D w0 L0 H F w) (t : TypeId) (cs : List Value) : Inv D w0 L0 (H ++ [⟨w.heap.size, t, cs⟩]) F (w.alloc (.cells cs.toArray t)) := by
  refine h.next (Keep.alloc _ _ _) (fun b hb => ?_) ?_ (fun g hg => ?_)
  · rcases List.mem_append.1 hb with hb | hb
    · exact (h.has b hb).alloc _
    · simp at hb
      subst hb
      exact Blk.new _ _ _
  · simp only [gs, List.map_append, List.map_cons, List.map_nil]
    rw [List.nodup_append]
    refine ⟨(List.nodup_append.1 h.nodup.1).1, by simp, fun x hx y hy => ?_⟩
    simp at hy
    subst hy
    have := h.lt x (List.mem_append_left _ hx)
    omega
  · simp only [gs, List.map_append, List.map_cons, List.map_nil] at hg
    rcases List.mem_append.1 hg with hg | hg
    · exact .inl hg
    · simp at hg
      subst hg
      exact .inr (Nat.le_refl _)
theorem gs_set {i : Nat} {b : Bk} (hi : H[i]? = some b) (cs : List Value) : gs (H.set i ⟨b.g, b.t, cs⟩) = gs H := by
  unfold gs
  rw [List.map_set]
  apply List.ext_getElem?
  intro j
  rw [List.getElem?_set]
  split
  · rename_i e
    subst e
    split
    · simp [hi]
    · rename_i hlt
      simp at hlt
      rw [List.getElem?_eq_none hlt] at hi
      cases hi
  · rfl
theorem Inv.ndH (h : Inv D w0 L0 H F w) : (gs H).Nodup := (List.nodup_append.1 h.nodup.1).1
theorem Inv.set (h : Inv D w0 L0 H F w) {i : Nat} {b : Bk} (hi : H[i]? = some b) {off : Nat} {vs : List Value} {cs : List Value} (hb : Blk (putCells w b.g off vs) b.g b.t cs.toArray) : Inv D w0 L0 (H.set i ⟨b.g, b.t, cs⟩) F (putCells w b.g off vs) := by
  have hm : b ∈ H := List.mem_of_getElem? hi
  refine h.next (Keep.put _ (List.mem_map.2 ⟨b, hm, rfl⟩) _ _) (fun c hc => ?_) (by rw [gs_set hi]; exact h.ndH) (fun g hg => .inl (by rw [gs_set hi] at hg; exact hg))
  obtain ⟨j, hj⟩ := List.getElem?_of_mem hc
  rw [List.getElem?_set] at hj
  split at hj
  · split at hj
    · injection hj with hj
      subst hj
      exact hb
    · cases hj
  · rename_i hne
    have hcm : c ∈ H := List.mem_of_getElem? hj
    have hcg : c.g ≠ b.g := fun e => hne (by
      have h1 : (gs H)[i]? = some b.g := by simp [gs, hi]
      have h2 : (gs H)[j]? = some c.g := by simp [gs, hj]
      exact (List.getElem?_inj (List.getElem?_eq_some_iff.1 h1).1 h.ndH).1 (by rw [h1, h2, e]))
    exact (h.has c hcm).move (putCells_heap hcg vs w off)
/-- more, or less, is told of the data -/
theorem Inv.ctx (h : Inv D w0 L0 H F w) {E : List (Addr × List Value)} {Fs : List Fact} (h1 : ∀ f ∈ Fs, f.holds w (dm D w0 H F w)) (h2 : ∀ e ∈ E, Rng w (dm D w0 H F w) e.1 e.2) : Inv D w0 L0 H { F with E := E, F := Fs } w :=
  ⟨h.has, h.nodup, h.keep, h.own, h.lt, h1, h2, h.marks, h.things, h.known⟩
theorem Inv.add (h : Inv D w0 L0 H F w) {f : Fact} (hf : f.holds w (dm D w0 H F w)) : Inv D w0 L0 H { F with F := f :: F.F } w :=
  h.ctx (fun k hk => by
    rcases List.mem_cons.1 hk with rfl | hk
    · exact hf
    · exact h.facts k hk) h.rngs
theorem Inv.rng (h : Inv D w0 L0 H F w) {q : Addr} {cs : List Value} (hf : Rng w (dm D w0 H F w) q cs) : Inv D w0 L0 H { F with E := (q, cs) :: F.E } w :=
  h.ctx h.facts (fun k hk => by
    rcases List.mem_cons.1 hk with rfl | hk
    · exact hf
    · exact h.rngs k hk)
theorem Inv.dropFE (h : Inv D w0 L0 H F w) (n m : Nat) : Inv D w0 L0 H { F with E := F.E.drop m, F := F.F.drop n } w :=
  h.ctx (fun f hf => h.facts f (List.mem_of_mem_drop hf)) (fun e he => h.rngs e (List.mem_of_mem_drop he))
end

/-! ### A frame of which some slots are known -/
def look (T : List (Nat × Value)) (i : Nat) : Option Value :=
  match T with
  | [] => none
  | p :: T => match Nat.beq p.1 i with
    | true => some p.2
    | false => look T i

def drops (T : List (Nat × Value)) (i : Nat) : List (Nat × Value) :=
  match T with
  | [] => []
  | p :: T => match Nat.beq p.1 i with
    | true => drops T i
    | false => p :: drops T i

def putT (T : List (Nat × Value)) (d : Option Nat) (v : Value) : List (Nat × Value) :=
  match d with
  | none => T
  | some d => (d, v) :: drops T d

def okDst (n : Nat) (d : Option Nat) : Bool :=
  match d with
  | none => true
  | some d => Nat.blt d n

structure Knows (n : Nat) (M : List Nat) (T : List (Nat × Value)) (a : Act) : Prop where
  size : a.tmps.size = n
  defers : a.defers = M.map mark
  slots : ∀ i v, look T i = some v → a.tmps[i]? = some v

theorem look_drops {T : List (Nat × Value)} {i j : Nat} : look (drops T j) i = if i = j then none else look T i := by
  induction T with
  | nil => simp [drops, look]
  | cons p T ih =>
    unfold drops
    cases h : Nat.beq p.1 j with
    | true =>
      have e := Nat.eq_of_beq_eq_true h
      simp only [ih]
      split
      · rfl
      · rename_i hn
        have : Nat.beq p.1 i = false := by
          cases h2 : Nat.beq p.1 i with
          | false => rfl
          | true => exact absurd ((Nat.eq_of_beq_eq_true h2).symm.trans e) hn
        simp [look, this]
    | false =>
      simp only [look]
      cases h2 : Nat.beq p.1 i with
      | true =>
        have e := Nat.eq_of_beq_eq_true h2
        have : i ≠ j := fun hj => by
          rw [← hj, ← e] at h
          simp at h
        simp [this]
      | false => exact ih

theorem Knows.put {n : Nat} {M : List Nat} {T : List (Nat × Value)} {a : Act} (h : Knows n M T a) {d : Option Nat} (hd : okDst n d = true) (v : Value) : Knows n M (putT T d v) (a.put d v) := by
  cases d with
  | none => exact h
  | some d =>
    have hlt : d < n := by simpa [okDst] using hd
    refine ⟨by simp [Act.put, h.size], h.defers, fun i u hu => ?_⟩
    simp only [putT, look] at hu
    simp only [Act.put, Array.getElem?_setIfInBounds]
    cases hb : Nat.beq d i with
    | true =>
      have e := Nat.eq_of_beq_eq_true hb
      rw [hb] at hu
      subst e
      simp [h.size, hlt]
      simpa using hu
    | false =>
      rw [hb] at hu
      simp only [look_drops] at hu
      have hne : d ≠ i := fun e => by subst e; simp at hb
      rw [if_neg (fun e => hne e.symm)] at hu
      rw [if_neg hne]
      exact h.slots i u hu

def subT : List (Nat × Value) → List (Nat × Value) → Prop := fun T T' => ∀ i v, look T' i = some v → look T i = some v
theorem Knows.sub {n : Nat} {M : List Nat} {T T' : List (Nat × Value)} {a : Act} (h : Knows n M T a) (hs : subT T T') : Knows n M T' a := ⟨h.size, h.defers, fun i v hv => h.slots i v (hs i v hv)⟩

def evT (T : List (Nat × Value)) : Operand → Option Value
  | .tmp t => look T t
  | .const v => some v
  | .global g => some (.pointer (some ⟨g, 0, none⟩))
  | .func f => some (.func (.func f) #[] #[])
def rho (T : List (Nat × Value)) (x : Operand) : Value := (evT T x).getD undef
def knowsAll (T : List (Nat × Value)) (o : Op) : Bool := o.operands.toList.all fun x => (evT T x).isSome

theorem Knows.eval {n : Nat} {M : List Nat} {T : List (Nat × Value)} {a : Act} (h : Knows n M T a) {x : Operand} (hx : (evT T x).isSome = true) : a.eval x = rho T x := by
  cases x with
  | tmp t =>
    change (look T t).isSome = true at hx
    show _ = (look T t).getD undef
    cases hl : look T t with
    | none => rw [hl] at hx; cases hx
    | some v =>
      have := h.slots t v hl
      simp [Act.eval, this]
  | const v => rfl
  | global g => rfl
  | func f => rfl
theorem Knows.evals {n : Nat} {M : List Nat} {T : List (Nat × Value)} {a : Act} (h : Knows n M T a) {o : Op} (hx : knowsAll T o = true) : ∀ x ∈ o.operands, a.eval x = rho T x := fun x hm => by
  unfold knowsAll at hx
  rw [List.all_eq_true] at hx
  exact h.eval (hx x (by simpa using hm))

/-- is it wanted? (none: not known) -/
def wantedT (ops : Array Oper) (T : List (Nat × Value)) (o : Oper) : Option Bool :=
  match o.guard with
  | none => some true
  | some (j, want) =>
    match (ops[j]?).bind (·.dst) with
    | none => none
    | some d =>
      match look T d with
      | some (.bool b) => some (b == want)
      | some (.tuple _) => some false
      | _ => none

theorem Knows.wanted {n : Nat} {M : List Nat} {T : List (Nat × Value)} {a : Act} (h : Knows n M T a) {ops : Array Oper} {o : Oper} {b : Bool} (hb : wantedT ops T o = some b) : Region.wanted o (yielded ops a.tmps) = b := by
  unfold wantedT at hb
  unfold Region.wanted
  cases hg : o.guard with
  | none => rw [hg] at hb; simpa using hb
  | some p =>
    obtain ⟨j, want⟩ := p
    rw [hg] at hb
    simp only at hb ⊢
    cases hd : (ops[j]?).bind (·.dst) with
    | none => rw [hd] at hb; cases hb
    | some d =>
      rw [hd] at hb
      simp only at hb
      cases hl : look T d with
      | none => rw [hl] at hb; cases hb
      | some v =>
        rw [hl] at hb
        have hs := h.slots d v hl
        cases v <;> simp only [reduceCtorEq, Option.some.injEq] at hb
        · unfold yielded
          rw [hd]
          simp [hs, ← hb]
        · unfold yielded
          rw [hd]
          simp [hs, ← hb]

/-! ### One operation -/
def isSel : Op → Bool
  | .select _ _ => true
  | .defer _ => true
  | _ => false
theorem notSel {o : Op} (h : isSel o = false) : (∀ cs b, o ≠ .select cs b) ∧ ∀ c, o ≠ .defer c := ⟨fun cs b e => (by rw [e] at h; cases h), fun c e => (by rw [e] at h; cases h)⟩

/-- what one operation does: 'h': which block a load or store goes to; 'fr': the numbers of blocks to come. The two rows at the end must be one: where the pointers point, and where they were said to. -/
def stepT (P : Program) (E : List (Addr × List Value)) (n : Nat) (o : Oper) (h : Nat) (T : List (Nat × Value)) (H : List Bk) (fr : List Nat) : Option (List (Nat × Value) × List Bk × List Nat × List Value × List Value × List Prop) :=
  match knowsAll T o.op && okDst n o.dst && !isSel o.op with
  | false => none
  | true =>
    match o.op with
    | .load t x =>
      match Nat.blt h 1000 with
      | true =>
        match H[h]?, rho T x with
        | some b, .pointer (some ad) =>
          match loadOf P t b.cs ad.off with
          | some v => some (putT T o.dst v, H, fr, [.pointer (some ad)], [.pointer (some ⟨b.g, ad.off, none⟩)], [])
          | none => none
        | _, _ => none
      | false =>
        match E[(h - 1000) / 100]?, rho T x with
        | some e, .pointer (some ad) =>
          match loadOf P t e.2 ((h - 1000) % 100) with
          | some v => some (putT T o.dst v, H, fr, [.pointer (some ad)], [.pointer (some (e.1.add ((h - 1000) % 100)))], [])
          | none => none
        | _, _ => none
    | .store t x y =>
      match H[h]?, rho T x with
      | some b, .pointer (some ad) =>
        match storeOf P t b.cs ad.off (rho T y) with
        | some cs => some (putT T o.dst undef, H.set h ⟨b.g, b.t, cs⟩, fr, [.pointer (some ad)], [.pointer (some ⟨b.g, ad.off, none⟩)], [])
        | none => none
      | _, _ => none
    | .alloc _ | .box _ _ | .buildSlice _ _ _ =>
      match newRun P (execOp (rho T) o), fr with
      | some (.cells cs t (0, 0), k), g :: fr =>
        match k g with
        | some (.value v) => some (putT T o.dst v, H ++ [⟨g, t, cs.toList⟩], fr, [], [], [])
        | _ => none
      | _, _ => none
    | _ =>
      match special P (rho T) o.op with
      | some (v, ps) => some (putT T o.dst v, H, fr, [], [], ps)
      | none =>
        match pureRun P (execOp (rho T) o) with
        | some (.value v) => some (putT T o.dst v, H, fr, [], [], [])
        | _ => none

section
variable {r' : Option Nat} {P : Program} {ops : Array Oper} {Q : Exit → Act → World → Prop} {D : Nat → Prop} {w0 w : World} {L0 : List Nat} {H H' : List Bk} {F : Fc} {N : Nat} {M : List Nat} {T T' : List (Nat × Value)}

theorem stepT_len {E : List (Addr × List Value)} {o : Oper} {h : Nat} {fr fr' : List Nat} {l r : List Value} {ob : List Prop} (hx : stepT P E N o h T H fr = some (T', H', fr', l, r, ob)) : l.length = r.length := by
  unfold stepT at hx
  split at hx
  · cases hx
  · split at hx
    all_goals
      repeat' (first | (cases hx; done) | split at hx)
    all_goals
      first
      | (cases hx; done)
      | (simp only [Option.some.injEq, Prod.mk.injEq] at hx; obtain ⟨_, _, _, rfl, rfl, _⟩ := hx; simp only [List.length_cons, List.length_nil])

theorem run_loadCellsAt {q : Addr} {cs : List Value} {off : Nat} (hc : ∀ j u, cs[j]? = some u → w.cell? (q.add j) = some u) : ∀ (n i : Nat) (acc : Array Value), off + i + n ≤ cs.length → (loadCellsFrom (q.add off) i n acc).run P w = .ok (acc ++ ((cs.drop (off + i)).take n).toArray) w
  | 0, i, acc, _ => by simp [loadCellsFrom, pure, Sem.run]
  | n + 1, i, acc, h => by
    have hl : off + i < cs.length := by omega
    have e : cs.drop (off + i) = cs[off + i] :: cs.drop (off + i + 1) := List.drop_eq_getElem_cons hl
    show (Sem.bind (load _) _).run P w = _
    unfold load
    simp only [Sem.bind, Sem.run]
    rw [add_of_add, hc (off + i) _ (List.getElem?_eq_getElem hl)]
    have := run_loadCellsAt (off := off) hc n (i + 1) (acc.push cs[off + i]) (by omega)
    simp only []
    rw [this, e, List.take_succ_cons, ← Nat.add_assoc]
    simp

theorem run_loadVarAt {q : Addr} {cs : List Value} (hc : ∀ j u, cs[j]? = some u → w.cell? (q.add j) = some u) {t : TypeId} {off : Nat} {v : Value} (h : loadOf P t cs off = some v) : (loadVar t (q.add off)).run P w = .ok v w := by
  unfold loadOf at h
  show (Sem.bind (Sem.bind (underlying t) _) _).run P w = _
  rw [run_bind, run_bind]
  cases hu : P.underlying t with
  | none => rw [hu] at h; cases h
  | some d =>
    rw [run_underlying hu]
    rw [hu] at h
    have agg : (∀ i, P.info? t = some i → ((cs.drop off).take i.size).length = i.size → some (Value.agg ((cs.drop off).take i.size).toArray) = some v →
        (Sem.bind (sizeOf t) fun n => Sem.bind (loadCells (q.add off) n) fun c => Sem.pure (Value.agg c)).run P w = .ok v w) := fun i hi hl hv => by
      rw [run_bind, run_sizeOf hi]
      show (Sem.bind (loadCells (q.add off) i.size) _).run P w = _
      rw [run_bind]
      unfold loadCells
      by_cases h0 : i.size = 0
      · rw [h0] at hv ⊢
        simp at hv
        subst hv
        simp [loadCellsFrom, pure, Sem.run]
      · rw [run_loadCellsAt hc (off := off) i.size 0 #[] (by simp at hl; omega)]
        simp at hv
        simp [Sem.run, ← hv]
    cases d <;> simp only at h ⊢
    case struct fs =>
      cases hi : P.info? t with
      | none => rw [hi] at h; cases h
      | some i =>
        rw [hi] at h
        simp only at h
        split at h
        · exact agg i hi ‹_› h
        · cases h
    case array n e =>
      cases hi : P.info? t with
      | none => rw [hi] at h; cases h
      | some i =>
        rw [hi] at h
        simp only at h
        split at h
        · exact agg i hi ‹_› h
        · cases h
    all_goals
      show (load _).run P w = _
      unfold load
      simp only [Sem.run]
      rw [hc off v h]

def memKind : Op → Nat
  | .load _ _ => 1
  | .store _ _ _ => 2
  | .alloc _ => 3
  | .box _ _ => 3
  | .buildSlice _ _ _ => 3
  | _ => 0

theorem stepT_known {E : List (Addr × List Value)} {o : Oper} {h : Nat} {fr fr' : List Nat} {l r : List Value} {ob : List Prop} (hx : stepT P E N o h T H fr = some (T', H', fr', l, r, ob)) : knowsAll T o.op = true ∧ okDst N o.dst = true ∧ isSel o.op = false := by
  unfold stepT at hx
  split at hx
  · cases hx
  · rename_i hc
    simp only [Bool.and_eq_true, Bool.not_eq_true'] at hc
    exact ⟨hc.1.1, hc.1.2, hc.2⟩

theorem stepT_pure {E : List (Addr × List Value)} {o : Oper} {h : Nat} {fr fr' : List Nat} {l r : List Value} {ob : List Prop} (hm : memKind o.op = 0) (hx : stepT P E N o h T H fr = some (T', H', fr', l, r, ob)) (hob : AllP ob) :
    H' = H ∧ fr' = fr ∧ l = [] ∧ r = [] ∧ ∃ v, T' = putT T o.dst v ∧ ∀ w, (execOp (rho T) o).run P w = .ok (.value v) w := by
  unfold stepT at hx
  split at hx
  · cases hx
  · split at hx
    · rename_i hop; rw [hop] at hm; cases hm
    · rename_i hop; rw [hop] at hm; cases hm
    · rename_i hop; rw [hop] at hm; cases hm
    · rename_i hop; rw [hop] at hm; cases hm
    · rename_i hop; rw [hop] at hm; cases hm
    · split at hx
      · rename_i v ps hv
        simp only [Option.some.injEq, Prod.mk.injEq] at hx
        obtain ⟨rfl, rfl, rfl, rfl, rfl, rfl⟩ := hx
        exact ⟨rfl, rfl, rfl, rfl, v, rfl, fun w => special_sound hv hob⟩
      · split at hx
        · rename_i v hv
          simp only [Option.some.injEq, Prod.mk.injEq] at hx
          obtain ⟨rfl, rfl, rfl, rfl, rfl, _⟩ := hx
          exact ⟨rfl, rfl, rfl, rfl, v, rfl, fun w => pureRun_sound _ hv w⟩
        · cases hx

/-- a load: from block h, or from data -/
theorem stepT_load {E : List (Addr × List Value)} {o : Oper} {h : Nat} {fr fr' : List Nat} {l r : List Value} {ob : List Prop} (hm : memKind o.op = 1) (hx : stepT P E N o h T H fr = some (T', H', fr', l, r, ob)) (hlr : l = r) :
    H' = H ∧ fr' = fr ∧ ∃ v, T' = putT T o.dst v ∧ ((h < 1000 ∧ ∃ b, H[h]? = some b ∧ ∀ w, Blk w b.g b.t b.cs.toArray → (execOp (rho T) o).run P w = .ok (.value v) w) ∨
      (∃ e ∈ E, ∀ w, (∀ j u, e.2[j]? = some u → w.cell? (e.1.add j) = some u) → (execOp (rho T) o).run P w = .ok (.value v) w)) := by
  unfold stepT at hx
  split at hx
  · cases hx
  · split at hx
    · rename_i t x hop
      have e : execOp (rho T) o = (Instr.loadAt t (rho T x)).bind fun v => pure (.value v) := by unfold execOp; rw [hop]; rfl
      split at hx
      · rename_i hlt
        split at hx
        · rename_i b ad hb ha
          split at hx
          · rename_i v hv
            simp only [Option.some.injEq, Prod.mk.injEq] at hx
            obtain ⟨rfl, rfl, rfl, rfl, rfl, _⟩ := hx
            simp only [List.cons.injEq, Value.pointer.injEq, Option.some.injEq, and_true] at hlr
            refine ⟨rfl, rfl, v, rfl, .inl ⟨by simpa using hlt, b, hb, fun w hbk => ?_⟩⟩
            have e2 : (Instr.loadAt t (rho T x)).run P w = .ok v w := by
              rw [ha]
              show (Sem.bind (Instr.sureAddr _) _).run P w = _
              rw [run_bind]
              show (loadVar t ad).run P w = _
              rw [hlr]
              exact run_loadVar hbk hv
            rw [e, run_bind, e2]
            rfl
          · cases hx
        · cases hx
      · split at hx
        · rename_i en ad hb ha
          split at hx
          · rename_i v hv
            simp only [Option.some.injEq, Prod.mk.injEq] at hx
            obtain ⟨rfl, rfl, rfl, rfl, rfl, _⟩ := hx
            simp only [List.cons.injEq, Value.pointer.injEq, Option.some.injEq, and_true] at hlr
            refine ⟨rfl, rfl, v, rfl, .inr ⟨en, List.mem_of_getElem? hb, fun w hc => ?_⟩⟩
            have e2 : (Instr.loadAt t (rho T x)).run P w = .ok v w := by
              rw [ha]
              show (Sem.bind (Instr.sureAddr _) _).run P w = _
              rw [run_bind]
              show (loadVar t ad).run P w = _
              rw [hlr]
              exact run_loadVarAt hc hv
            rw [e, run_bind, e2]
            rfl
          · cases hx
        · cases hx
    · rename_i hop; rw [hop] at hm; cases hm
    · rename_i hop; rw [hop] at hm; cases hm
    · rename_i hop; rw [hop] at hm; cases hm
    · rename_i hop; rw [hop] at hm; cases hm
    · rename_i h1 h2 h3 h4 h5
      exfalso
      cases hop : o.op <;> rw [hop] at hm <;> first | (cases hm; done) | exact h1 _ _ hop

theorem stepT_store {E : List (Addr × List Value)} {o : Oper} {h : Nat} {fr fr' : List Nat} {l r : List Value} {ob : List Prop} (hm : memKind o.op = 2) (hx : stepT P E N o h T H fr = some (T', H', fr', l, r, ob)) (hlr : l = r) (hI : Inv D w0 L0 H F w) :
    fr' = fr ∧ T' = putT T o.dst undef ∧ ∃ b cs off vs, H[h]? = some b ∧ H' = H.set h ⟨b.g, b.t, cs⟩ ∧ (execOp (rho T) o).run P w = .ok .skip (putCells w b.g off vs) ∧ Blk (putCells w b.g off vs) b.g b.t cs.toArray := by
  unfold stepT at hx
  split at hx
  · cases hx
  · split at hx
    · rename_i hop; rw [hop] at hm; cases hm
    · rename_i t x y hop
      split at hx
      · rename_i b ad hb ha
        split at hx
        · rename_i cs hv
          simp only [Option.some.injEq, Prod.mk.injEq] at hx
          obtain ⟨rfl, rfl, rfl, rfl, rfl, _⟩ := hx
          simp only [List.cons.injEq, Value.pointer.injEq, Option.some.injEq, and_true] at hlr
          have hbk := hI.has b (List.mem_of_getElem? hb)
          obtain ⟨r1, r2⟩ := run_storeVar (P := P) hbk hv
          refine ⟨rfl, rfl, b, cs, _, _, hb, rfl, ?_, r2⟩
          have e : execOp (rho T) o = (Instr.storeAt t (rho T x) (rho T y)).bind fun _ => pure .skip := by unfold execOp; rw [hop]; rfl
          have e2 : (Instr.storeAt t (rho T x) (rho T y)).run P w = .ok () (putCells w b.g ad.off (rho T y).cells.toList) := by
            rw [ha]
            show (Sem.bind (Instr.sureAddr _) _).run P w = _
            rw [run_bind]
            show (storeVar t ad (rho T y)).run P w = _
            rw [hlr]
            exact r1
          rw [e, run_bind, e2]
          rfl
        · cases hx
      · cases hx
    · rename_i hop; rw [hop] at hm; cases hm
    · rename_i hop; rw [hop] at hm; cases hm
    · rename_i hop; rw [hop] at hm; cases hm
    · rename_i h1 h2 h3 h4 h5
      exfalso
      cases hop : o.op <;> rw [hop] at hm <;> first | (cases hm; done) | exact h2 _ _ _ hop

theorem stepT_new {E : List (Addr × List Value)} {o : Oper} {h n : Nat} {fr' : List Nat} {l r : List Value} {ob : List Prop} (hm : memKind o.op = 3) (hx : stepT P E N o h T H (List.range' w.heap.size n) = some (T', H', fr', l, r, ob)) :
    ∃ v t cs m, n = m + 1 ∧ fr' = List.range' (w.heap.size + 1) m ∧ T' = putT T o.dst v ∧ H' = H ++ [⟨w.heap.size, t, cs⟩] ∧ (execOp (rho T) o).run P w = .ok (.value v) (w.alloc (.cells cs.toArray t)) := by
  have new_ : (match newRun P (execOp (rho T) o), List.range' w.heap.size n with
      | some (.cells cs t (0, 0), k), g :: fr =>
        match k g with
        | some (.value v) => some (putT T o.dst v, H ++ [⟨g, t, cs.toList⟩], fr, ([] : List Value), ([] : List Value), ([] : List Prop))
        | _ => none
      | _, _ => none) = some (T', H', fr', l, r, ob) → ∃ v t cs m, n = m + 1 ∧ fr' = List.range' (w.heap.size + 1) m ∧ T' = putT T o.dst v ∧ H' = H ++ [⟨w.heap.size, t, cs⟩] ∧ (execOp (rho T) o).run P w = .ok (.value v) (w.alloc (.cells cs.toArray t)) := fun hx => by
      split at hx
      · rename_i cs t k g fr hnew hfr
        cases n with
        | zero => simp at hfr
        | succ n =>
          rw [List.range'_succ] at hfr
          injection hfr with hg hfr
          subst hg hfr
          split at hx
          · rename_i v hv
            simp only [Option.some.injEq, Prod.mk.injEq] at hx
            obtain ⟨rfl, rfl, rfl, _, _, _⟩ := hx
            exact ⟨v, t, cs.toList, n, rfl, rfl, rfl, rfl, by rw [newRun_sound _ hnew hv]⟩
          · cases hx
      · cases hx
  unfold stepT at hx
  split at hx
  · cases hx
  · split at hx
    · rename_i hop; rw [hop] at hm; cases hm
    · rename_i hop; rw [hop] at hm; cases hm
    · exact new_ hx
    · exact new_ hx
    · exact new_ hx
    · rename_i h1 h2 h3 h4 h5
      exfalso
      cases hop : o.op <;> rw [hop] at hm <;> first | (cases hm; done) | exact h3 _ hop | exact h4 _ _ hop | exact h5 _ _ _ hop

theorem memKind_le (o : Op) : memKind o ≤ 3 := by cases o <;> simp [memKind]

/-- one operation that is wanted, from whatever world of which Inv holds -/
theorem stepT_sound {o : Oper} {h : Nat} {a : Act} {fr' : List Nat} {n : Nat} {l r : List Value} {ob : List Prop} (hI : Inv D w0 L0 H F w) (hT : Knows N M T a) (hx : stepT P F.E N o h T H (List.range' w.heap.size n) = some (T', H', fr', l, r, ob)) (hlr : l = r) (hob : AllP ob)
    {K : Act → World → Prop} (hK : ∀ a' w' m, Inv D w0 L0 H' F w' → Knows N M T' a' → fr' = List.range' w'.heap.size m → K a' w') : o.wpIn (fz r') 0 P a w K Q := by
  obtain ⟨hka, hd, hs⟩ := stepT_known hx
  have hcong : execOp a.eval o = execOp (rho T) o := execOp_congr o (notSel hs).1 (hT.evals hka)
  refine ⟨fun _ _ => trivial, ?_⟩
  rw [show (fz r').round = r' from rfl, semR (notSel hs).2, hcong]
  match hm : memKind o.op, memKind_le o.op with
  | 0, _ =>
    obtain ⟨rfl, rfl, _, _, v, rfl, hrun⟩ := stepT_pure hm hx hob
    rw [hrun w]
    exact hK _ w n hI (hT.put hd _) rfl
  | 1, _ =>
    obtain ⟨rfl, rfl, v, rfl, hrun⟩ := stepT_load hm hx hlr
    rcases hrun with ⟨_, b, hb, hrun⟩ | ⟨e, he, hrun⟩
    · rw [hrun w (hI.has b (List.mem_of_getElem? hb))]
      exact hK _ w n hI (hT.put hd _) rfl
    · rw [hrun w (hI.rngs e he).2]
      exact hK _ w n hI (hT.put hd _) rfl
  | 2, _ =>
    obtain ⟨rfl, rfl, b, cs, off, vs, hb, rfl, hrun, hblk⟩ := stepT_store hm hx hlr hI
    rw [hrun]
    exact hK _ _ n (hI.set hb hblk) (hT.put hd _) (by rw [(putCells_same _ _ _).1])
  | 3, _ =>
    obtain ⟨v, t, cs, m, rfl, rfl, rfl, rfl, hrun⟩ := stepT_new hm hx
    rw [hrun]
    exact hK _ _ m (hI.new t cs) (hT.put hd _) (by simp)
end

end Go.Proofs.YtpifcidnpbkaoaaGreatDoor

/- The evaluator, 3: what is known of a world. No program in sight. -/
namespace Go.Proofs.YtpifcidnpbkaoaaGreatDoor
open Go Go.RowKit

structure FRel (ν : Nm) (T : Tr AV) (N : Nat) (tmps : Array Value) : Prop where
  size : tmps.size = N
  slots : ∀ i v, T.get i = some v → ∃ V, den ν v = some V ∧ tmps[i]? = some V
theorem FRel.mono {ν ν' : Nm} {T : Tr AV} {N : Nat} {tmps : Array Value} (h : FRel ν T N tmps) (hν : Nm.le ν ν') : FRel ν' T N tmps :=
  ⟨h.size, fun i v hv => by
    obtain ⟨V, h1, h2⟩ := h.slots i v hv
    exact ⟨V, den_mono hν v V h1, h2⟩⟩
theorem FRel.put {ν : Nm} {T : Tr AV} {N : Nat} {tmps : Array Value} (h : FRel ν T N tmps) {d : Nat} {v : AV} {V : Value} (hd : d < N) (hv : den ν v = some V) : FRel ν (T.put d (some v)) N (tmps.setIfInBounds d V) :=
  ⟨by simp [h.size], fun i u hu => by
    rw [Tr.get_put] at hu
    split at hu
    · rename_i e
      subst e
      injection hu with hu
      subst hu
      exact ⟨V, hv, by simp [h.size, hd]⟩
    · rename_i hne
      obtain ⟨U, h1, h2⟩ := h.slots i u hu
      exact ⟨U, h1, by rw [Array.getElem?_setIfInBounds_ne (Ne.symm hne)]; exact h2⟩⟩
theorem FRel.putD {ν : Nm} {T : Tr AV} {N : Nat} {a : Act} (h : FRel ν T N a.tmps) {d : Option Nat} {v : AV} {V : Value} (hd : okD N d = true) (hv : den ν v = some V) : FRel ν (putD T d v) N (a.put d V).tmps := by
  cases d with
  | none => exact h
  | some d => exact h.put (Nat.le_of_ble_eq_true hd) hv
theorem FRel.evA {ν : Nm} {T : Tr AV} {N : Nat} {a : Act} (h : FRel ν T N a.tmps) {x : Operand} {v : AV} (hx : evA T x = some v) : den ν v = some (a.eval x) := by
  cases x with
  | tmp t =>
    obtain ⟨V, h1, h2⟩ := h.slots t v hx
    rw [h1]
    simp [Act.eval, h2]
  | const c => exact ofV_den hx
  | func f => simp only [YtpifcidnpbkaoaaGreatDoor.evA, Option.some.injEq] at hx; subst hx; rfl
  | global g => simp only [YtpifcidnpbkaoaaGreatDoor.evA, Option.some.injEq] at hx; subst hx; rfl

def ERel (ν : Nm) (e : AV × AV × Nat) (m : MapEntry) : Prop := den ν e.1 = some m.key ∧ den ν e.2.1 = some m.val ∧ e.2.2 = m.born
def optN (ν : Nm) : Option Nat → Option Nat → Prop
  | none, r => r = none
  | some i, r => ∃ g, ν i = some g ∧ r = some g

/-- a thing in memory, and what it is here -/
def ORel (P : Program) (ν : Nm) : AObj → Obj → Prop
  | .cells l t c, .cells arr t' fz => t' = t ∧ NoFz fz arr.size ∧ ∃ L R, denL ν l = some L ∧ arr.toList = L ++ R ∧
      (match c with
       | none => R = []
       | some c => ∃ cap i, ν c = some cap ∧ P.info? t = some i ∧ arr.size = cap * i.size)
  | .map es clock, .map arr clock' => clock' = clock ∧ All2 (ERel ν) es arr.toList
  | .iter m since seen stepped, .mapIter m' since' seen' stepped' => optN ν m m' ∧ since' = since ∧ seen'.toList = seen ∧ stepped' = stepped
  | .loop st pend T N ps assign body d, .loop r => r.state = st ∧ r.pending = pend ∧ FRel ν T N r.tmps ∧ r.params.toList = ps ∧ r.assign = assign ∧ r.body = body ∧ ν d = some r.defers
  | .defr, .deferred d => d = some []
  | _, _ => False

theorem ORel.mono {P : Program} {ν ν' : Nm} (hν : Nm.le ν ν') {o : AObj} {obj : Obj} (h : ORel P ν o obj) : ORel P ν' o obj := by
  cases o <;> cases obj <;> simp only [ORel] at h ⊢ <;> try exact h
  case cells.cells l t c arr t' fz =>
    obtain ⟨h1, h2, L, R, h3, h4, h5⟩ := h
    refine ⟨h1, h2, L, R, denL_mono hν l L h3, h4, ?_⟩
    cases c with
    | none => exact h5
    | some c =>
      obtain ⟨cap, i, h6, h7, h8⟩ := h5
      exact ⟨cap, i, hν _ _ h6, h7, h8⟩
  case map.map es clock arr clock' => exact ⟨h.1, All2.imp (fun e m hm => ⟨den_mono hν _ _ hm.1, den_mono hν _ _ hm.2.1, hm.2.2⟩) h.2⟩
  case iter.mapIter m a b c m' a' b' c' =>
    refine ⟨?_, h.2⟩
    cases m with
    | none => exact h.1
    | some i =>
      obtain ⟨g, h1, h2⟩ := h.1
      exact ⟨g, hν _ _ h1, h2⟩
  case loop.loop => exact ⟨h.1, h.2.1, h.2.2.1.mono hν, h.2.2.2.1, h.2.2.2.2.1, h.2.2.2.2.2.1, hν _ _ h.2.2.2.2.2.2⟩

/-- what the packages' variables hold in a world, cell by cell -/
def GlobOk (ν : Nm) (gl : List (Nat × List AV)) (w : World) : Prop := ∀ g l, (g, l) ∈ gl → ∀ i v, l[i]? = some v → ∃ V, den ν v = some V ∧ w.cell? ⟨g, i, none⟩ = some V
/-- a term is so, or not -/
def IsSo (ν : Nm) (t : Tm) (b : Bool) : Prop := ∃ n, denT ν t = some (.n n) ∧ decide (n ≠ 0) = b
structure CtxOk (ν : Nm) (x : Ctx) (w0 : World) : Prop where
  gl : GlobOk ν x.gl w0
  pc : ∀ t b, (t, b) ∈ x.pc → IsSo ν t b
theorem CtxOk.mono {ν ν' : Nm} {x : Ctx} {w0 : World} (h : CtxOk ν x w0) (hν : Nm.le ν ν') : CtxOk ν' x w0 :=
  ⟨fun g l hg i v hv => by
    obtain ⟨V, h1, h2⟩ := h.gl g l hg i v hv
    exact ⟨V, den_mono hν v V h1, h2⟩, fun t b ht => by
    obtain ⟨n, h1, h2⟩ := h.pc t b ht
    exact ⟨n, denT_mono hν t _ h1, h2⟩⟩

/-- where a region began -/
structure Anch where
  h : Tr AObj
  ν : Nm
  w : World

/-- What is known of the world w: w0: where all began; A: where the region began -/
structure WRel (P : Program) (w0 : World) (A : Anch) (ν : Nm) (s : St) (w : World) : Prop where
  keep : Keep [] w0 w
  top : ∀ i, s.n ≤ i → ν i = none
  objs : ∀ i o, s.h.get i = some o → ∃ g obj, ν i = some g ∧ w0.heap.size ≤ g ∧ w.heap[g]? = some obj ∧ ORel P ν o obj
  inj : ∀ i j o o', s.h.get i = some o → s.h.get j = some o' → ν i = ν j → i = j
  ext : Nm.le A.ν ν
  anc : ∀ i o, A.h.get i = some o → ∃ g, A.ν i = some g
  same : ∀ i o, A.h.get i = some o → i ∉ s.log → (∃ o, s.h.get i = some o) ∧ ∀ g, A.ν i = some g → w.heap[g]? = A.w.heap[g]?
  far : ∀ g, g < A.w.heap.size → (∀ i o, A.h.get i = some o → A.ν i ≠ some g) → w.heap[g]? = A.w.heap[g]?
  big : A.w.heap.size ≤ w.heap.size
  own : ∀ i o, s.h.get i = some o → ∀ g, ν i = some g → A.w.heap.size ≤ g ∨ ∃ j o, A.h.get j = some o ∧ A.ν j = some g
  ctx : CtxOk ν s.x w0

/-- one block turns -/
structure Upd (w : World) (g : Nat) (obj : Obj) (w' : World) : Prop where
  os : w'.os = w.os
  tape : w'.tape = w.tape
  output : w'.output = w.output
  size : w'.heap.size = w.heap.size
  here : w'.heap[g]? = some obj
  rest : ∀ k, k ≠ g → w'.heap[k]? = w.heap[k]?

def Nm.set (ν : Nm) (k v : Nat) : Nm := ⟨fun i => if i = k then some v else ν i, ν.x, ν.u⟩
theorem Nm.le_set {ν : Nm} {k : Nat} (h : ν k = none) (v : Nat) : Nm.le ν (ν.set k v) := ⟨fun i g hi => by
  unfold Nm.set
  simp only
  split
  · rename_i e; subst e; rw [h] at hi; cases hi
  · exact hi, fun _ _ h => h, fun _ _ _ h => h, rfl, rfl⟩
theorem Nm.set_same (ν : Nm) (k v : Nat) : (ν.set k v) k = some v := by simp [Nm.set]

section
variable {P : Program} {w0 w w' : World} {A : Anch} {ν : Nm} {s : St}

theorem WRel.lt (h : WRel P w0 A ν s w) {i g : Nat} {o : AObj} (hi : s.h.get i = some o) (hg : ν i = some g) : g < w.heap.size := by
  obtain ⟨g', obj, h1, _, h3, _⟩ := h.objs i o hi
  rw [hg] at h1
  injection h1 with h1
  subst h1
  exact (Array.getElem?_eq_some_iff.1 h3).1
theorem WRel.at_ (h : WRel P w0 A ν s w) {i g : Nat} {o : AObj} (hi : s.h.get i = some o) (hg : ν i = some g) : ∃ obj, w.heap[g]? = some obj ∧ ORel P ν o obj := by
  obtain ⟨g', obj, h1, _, h3, h4⟩ := h.objs i o hi
  rw [hg] at h1
  injection h1 with h1
  subst h1
  exact ⟨obj, h3, h4⟩
theorem WRel.named (h : WRel P w0 A ν s w) {k : Nat} (hk : ν k = none) (o : AObj) : s.h.get k ≠ some o := fun e => by
  obtain ⟨g, _, h1, _⟩ := h.objs k o e
  rw [hk] at h1
  cases h1
theorem WRel.namedA (h : WRel P w0 A ν s w) {k : Nat} (hk : ν k = none) (o : AObj) : A.h.get k ≠ some o := fun e => by
  obtain ⟨g, h1⟩ := h.anc k o e
  rw [h.ext _ _ h1] at hk
  cases hk

theorem WRel.drew (h : WRel P w0 A ν s w) : WRel P w0 A ν s w.drew := ⟨h.keep.trans (Keep.drew _ _), h.top, h.objs, h.inj, h.ext, h.anc, h.same, h.far, h.big, h.own, h.ctx⟩

/-- a thing turns -/
theorem WRel.write (h : WRel P w0 A ν s w) {i g : Nat} {o0 o : AObj} {obj : Obj} (hi : s.h.get i = some o0) (hg : ν i = some g) (hO : ORel P ν o obj) (hw : Upd w g obj w') {lg : List Nat} (hl : ∀ x ∈ s.log, x ∈ lg)
    (hil : ∀ o, A.h.get i = some o → i ∈ lg) : WRel P w0 A ν ⟨s.h.put i (some o), s.n, lg, s.x⟩ w' := by
  have hgs : w0.heap.size ≤ g := by
    obtain ⟨g', obj, h1, h2, _⟩ := h.objs i o0 hi
    rw [hg] at h1
    injection h1 with h1
    subst h1
    exact h2
  have old : ∀ j o', (s.h.put i (some o)).get j = some o' → j ≠ i → s.h.get j = some o' := fun j o' hj hne => by
    rw [Tr.get_put, if_neg hne] at hj
    exact hj
  have alive : ∀ j o', (s.h.put i (some o)).get j = some o' → ∃ o'', s.h.get j = some o'' := fun j o' hj => by
    by_cases e : j = i
    · subst e; exact ⟨_, hi⟩
    · exact ⟨_, old j o' hj e⟩
  refine ⟨⟨hw.os.trans h.keep.os, hw.tape.trans h.keep.tape, hw.output.trans h.keep.output, by rw [hw.size]; exact h.keep.size, fun k hk hn => ?_⟩, h.top, fun j o' hj => ?_, fun j k o1 o2 hj hk e => ?_, h.ext, h.anc, fun j o' hj hn => ?_, fun k hk hn => ?_, by rw [hw.size]; exact h.big, fun j o' hj g' hg' => ?_, h.ctx⟩
  · rw [hw.rest k (by omega)]
    exact h.keep.block k hk hn
  · by_cases e : j = i
    · subst e
      rw [Tr.get_put, if_pos rfl] at hj
      injection hj with hj
      subst hj
      exact ⟨g, obj, hg, hgs, hw.here, hO⟩
    · have hj' := old j o' hj e
      obtain ⟨g', obj', h1, h2, h3, h4⟩ := h.objs j o' hj'
      refine ⟨g', obj', h1, h2, ?_, h4⟩
      rw [hw.rest g' fun e' => e (h.inj j i o' o0 hj' hi (by rw [h1, hg, e']))]
      exact h3
  · obtain ⟨a, ha⟩ := alive j o1 hj
    obtain ⟨b, hb⟩ := alive k o2 hk
    exact h.inj j k a b ha hb e
  · have hn' : j ∉ s.log := fun hm => hn (hl j hm)
    obtain ⟨⟨o2, h1⟩, h2⟩ := h.same j o' hj hn'
    have hne : j ≠ i := fun e => hn (by subst e; exact hil _ hj)
    refine ⟨⟨o2, by rw [Tr.get_put, if_neg hne]; exact h1⟩, fun g' hg' => ?_⟩
    rw [hw.rest g' fun e => hne (h.inj j i o2 o0 h1 hi (by rw [h.ext _ _ hg', hg, e]))]
    exact h2 g' hg'
  · rw [hw.rest k ?_]
    · exact h.far k hk hn
    · rintro rfl
      rcases h.own i o0 hi k hg with h1 | ⟨j, o', h1, h2⟩
      · omega
      · exact hn j o' h1 h2
  · obtain ⟨a, ha⟩ := alive j o' hj
    exact h.own j a ha g' hg'

/-- a new thing, at a name that is free -/
theorem WRel.alloc (h : WRel P w0 A ν s w) {k n' : Nat} {o : AObj} {obj : Obj} (hk : ν k = none) (hn : s.n ≤ n') (hkn : k < n') (hO : ORel P (ν.set k w.heap.size) o obj) :
    WRel P w0 A (ν.set k w.heap.size) ⟨s.h.put k (some o), n', s.log, s.x⟩ (w.alloc obj) := by
  have hle := Nm.le_set hk w.heap.size
  have old : ∀ j o', (s.h.put k (some o)).get j = some o' → j ≠ k → s.h.get j = some o' := fun j o' hj hne => by
    rw [Tr.get_put, if_neg hne] at hj
    exact hj
  have hne : ∀ j o', s.h.get j = some o' → j ≠ k := fun j o' hj e => h.named hk o' (e ▸ hj)
  have νold : ∀ j, j ≠ k → (ν.set k w.heap.size) j = ν j := fun j hj => by simp [Nm.set, hj]
  have heapOld : ∀ g, g < w.heap.size → (w.alloc obj).heap[g]? = w.heap[g]? := fun g hg => Below.heap_alloc _ _ _ hg
  refine ⟨h.keep.trans (Keep.alloc _ _ _), fun i hi => ?_, fun j o' hj => ?_, fun i j o1 o2 hi hj e => ?_, h.ext.trans hle, h.anc, fun j o' hj hn' => ?_, fun g hg hf => ?_, by simp; have := h.big; omega, fun j o' hj g hg => ?_, h.ctx.mono hle⟩
  · have : i ≠ k := by simp at hi; omega
    rw [νold i this]
    exact h.top i (Nat.le_trans hn hi)
  · by_cases e : j = k
    · subst e
      rw [Tr.get_put, if_pos rfl] at hj
      injection hj with hj
      subst hj
      exact ⟨w.heap.size, obj, Nm.set_same _ _ _, h.keep.size, World.alloc_heap_new _ _, hO⟩
    · have hj' := old j o' hj e
      obtain ⟨g', obj', h1, h2, h3, h4⟩ := h.objs j o' hj'
      exact ⟨g', obj', hle _ _ h1, h2, (heapOld g' (h.lt hj' h1)).trans h3, h4.mono hle⟩
  · by_cases ei : i = k <;> by_cases ej : j = k
    · rw [ei, ej]
    · exfalso
      have hj' := old j o2 hj ej
      obtain ⟨g', obj', h1, _⟩ := h.objs j o2 hj'
      have := h.lt hj' h1
      rw [νold j ej, h1, ei, Nm.set_same] at e
      injection e with e
      omega
    · exfalso
      have hi' := old i o1 hi ei
      obtain ⟨g', obj', h1, _⟩ := h.objs i o1 hi'
      have := h.lt hi' h1
      rw [νold i ei, h1, ej, Nm.set_same] at e
      injection e with e
      omega
    · rw [νold i ei, νold j ej] at e
      exact h.inj i j o1 o2 (old i o1 hi ei) (old j o2 hj ej) e
  · obtain ⟨⟨o2, h1⟩, h2⟩ := h.same j o' hj hn'
    refine ⟨⟨o2, by rw [Tr.get_put, if_neg (hne j o2 h1)]; exact h1⟩, fun g hg => ?_⟩
    rw [heapOld g (h.lt h1 (h.ext _ _ hg))]
    exact h2 g hg
  · rw [heapOld g (Nat.lt_of_lt_of_le hg h.big)]
    exact h.far g hg hf
  · by_cases e : j = k
    · subst e
      rw [Nm.set_same] at hg
      injection hg with hg
      subst hg
      exact .inl h.big
    · rw [νold j e] at hg
      exact h.own j o' (old j o' hj e) g hg

/-- a name for a number -/
theorem WRel.name (h : WRel P w0 A ν s w) {k n' : Nat} (hk : ν k = none) (hn : s.n ≤ n') (hkn : k < n') (v : Nat) : WRel P w0 A (ν.set k v) ⟨s.h, n', s.log, s.x⟩ w := by
  have hle := Nm.le_set hk v
  have νold : ∀ j, j ≠ k → (ν.set k v) j = ν j := fun j hj => by simp [Nm.set, hj]
  have hne : ∀ j o', s.h.get j = some o' → j ≠ k := fun j o' hj e => h.named hk o' (e ▸ hj)
  refine ⟨h.keep, fun i hi => ?_, fun j o' hj => ?_, fun i j o1 o2 hi hj e => ?_, h.ext.trans hle, h.anc, h.same, h.far, h.big, fun j o' hj g hg => ?_, h.ctx.mono hle⟩
  · simp only at hi
    rw [νold i (by omega)]
    exact h.top i (by omega)
  · obtain ⟨g', obj', h1, h2, h3, h4⟩ := h.objs j o' hj
    exact ⟨g', obj', hle _ _ h1, h2, h3, h4.mono hle⟩
  · rw [νold i (hne i o1 hi), νold j (hne j o2 hj)] at e
    exact h.inj i j o1 o2 hi hj e
  · rw [νold j (hne j o' hj)] at hg
    exact h.own j o' hj g hg

/-- a thing is looked at no more -/
theorem WRel.kill (h : WRel P w0 A ν s w) (i : Nat) : WRel P w0 A ν (killO s i) w := by
  have old : ∀ j o', (s.h.put i none).get j = some o' → j ≠ i ∧ s.h.get j = some o' := fun j o' hj => by
    rw [Tr.get_put] at hj
    split at hj
    · cases hj
    · exact ⟨‹_›, hj⟩
  refine ⟨h.keep, h.top, fun j o' hj => h.objs j o' (old j o' hj).2, fun a b o1 o2 ha hb => h.inj a b o1 o2 (old a o1 ha).2 (old b o2 hb).2, h.ext, h.anc, fun j o' hj hn => ?_, h.far, h.big, fun j o' hj => h.own j o' (old j o' hj).2, h.ctx⟩
  simp only [killO, List.mem_cons, not_or] at hn
  obtain ⟨⟨o2, h1⟩, h2⟩ := h.same j o' hj hn.2
  exact ⟨⟨o2, by simp only [killO]; rw [Tr.get_put, if_neg hn.1]; exact h1⟩, h2⟩

/-- a block that no name has any more gets a new one -/
theorem WRel.adopt (h : WRel P w0 A ν s w) {k n' g : Nat} {o : AObj} {obj : Obj} (hk : ν k = none) (hn : s.n ≤ n') (hkn : k < n') (hg : w.heap[g]? = some obj) (h0 : w0.heap.size ≤ g) (hno : ∀ i o, s.h.get i = some o → ν i ≠ some g)
    (hown : A.w.heap.size ≤ g ∨ ∃ j o, A.h.get j = some o ∧ A.ν j = some g) (hO : ORel P (ν.set k g) o obj) : WRel P w0 A (ν.set k g) ⟨s.h.put k (some o), n', s.log, s.x⟩ w := by
  have hle := Nm.le_set hk g
  have νold : ∀ j, j ≠ k → (ν.set k g) j = ν j := fun j hj => by simp [Nm.set, hj]
  have old : ∀ j o', (s.h.put k (some o)).get j = some o' → j ≠ k → s.h.get j = some o' := fun j o' hj hne => by
    rw [Tr.get_put, if_neg hne] at hj
    exact hj
  have hne : ∀ j o', s.h.get j = some o' → j ≠ k := fun j o' hj e => h.named hk o' (e ▸ hj)
  refine ⟨h.keep, fun i hi => ?_, fun j o' hj => ?_, fun i j o1 o2 hi hj e => ?_, h.ext.trans hle, h.anc, fun j o' hj hn => ?_, h.far, h.big, fun j o' hj g' hg' => ?_, h.ctx.mono hle⟩
  · simp only at hi
    rw [νold i (by omega)]
    exact h.top i (by omega)
  · by_cases e : j = k
    · subst e
      rw [Tr.get_put, if_pos rfl] at hj
      injection hj with hj
      subst hj
      exact ⟨g, obj, Nm.set_same _ _ _, h0, hg, hO⟩
    · obtain ⟨g', obj', h1, h2, h3, h4⟩ := h.objs j o' (old j o' hj e)
      exact ⟨g', obj', hle _ _ h1, h2, h3, h4.mono hle⟩
  · by_cases ei : i = k <;> by_cases ej : j = k
    · rw [ei, ej]
    · rw [ei, Nm.set_same, νold j ej] at e
      exact absurd e.symm (hno j o2 (old j o2 hj ej))
    · rw [ej, Nm.set_same, νold i ei] at e
      exact absurd e (hno i o1 (old i o1 hi ei))
    · rw [νold i ei, νold j ej] at e
      exact h.inj i j o1 o2 (old i o1 hi ei) (old j o2 hj ej) e
  · obtain ⟨⟨o2, h1⟩, h2⟩ := h.same j o' hj hn
    exact ⟨⟨o2, by rw [Tr.get_put, if_neg (hne j o2 h1)]; exact h1⟩, h2⟩
  · by_cases e : j = k
    · subst e
      rw [Nm.set_same] at hg'
      injection hg' with hg'
      subst hg'
      exact hown
    · rw [νold j e] at hg'
      exact h.own j o' (old j o' hj e) g' hg'

/-! ### cells -/
theorem WRel.blk (h : WRel P w0 A ν s w) {i g : Nat} {l : List AV} {t : TypeId} {c : Option Nat} (hi : s.h.get i = some (.cells l t c)) (hg : ν i = some g) :
    ∃ L R, denL ν l = some L ∧ Blk w g t (L ++ R).toArray ∧ (match c with | none => R = [] | some c => ∃ cap i, ν c = some cap ∧ P.info? t = some i ∧ (L ++ R).length = cap * i.size) := by
  obtain ⟨obj, h1, h2⟩ := h.at_ hi hg
  cases obj <;> simp only [ORel] at h2 <;> try exact h2.elim
  rename_i arr t' fz
  obtain ⟨rfl, hfz, L, R, h3, h4, h5⟩ := h2
  refine ⟨L, R, h3, ?_, ?_⟩
  · exact ⟨fz, by rw [h1, ← h4], by rw [← h4]; exact hfz⟩
  · cases c with
    | none => exact h5
    | some c =>
      obtain ⟨cap, i, h6, h7, h8⟩ := h5
      exact ⟨cap, i, h6, h7, by rw [← h4]; simpa using h8⟩

theorem Upd.put {w : World} {g : Nat} {t : TypeId} {cs' : List Value} (hlt : g < w.heap.size) (off : Nat) (vs : List Value) (hb : Blk (putCells w g off vs) g t cs'.toArray) : ∃ fz, NoFz fz cs'.toArray.size ∧ Upd w g (.cells cs'.toArray t fz) (putCells w g off vs) := by
  obtain ⟨h1, h2, h3, h4⟩ := putCells_same (g := g) vs w off
  obtain ⟨fz, hb, k⟩ := hb
  exact ⟨fz, k, h2, h3, h4, h1, hb, fun k hk => putCells_heap hk vs w off⟩
theorem Upd.obj {w : World} {g : Nat} (obj : Obj) (hlt : g < w.heap.size) : Upd w g obj (w.putObj g obj) :=
  ⟨rfl, rfl, rfl, by simp, World.putObj_heap_same hlt, fun k hk => World.putObj_heap_other hk⟩
end

end Go.Proofs.YtpifcidnpbkaoaaGreatDoor

/- The evaluator, 4: operations that neither write nor make anything. No program in sight. -/
namespace Go.Proofs.YtpifcidnpbkaoaaGreatDoor
open Go Go.RowKit

theorem intEq_spec (a b : Int) : intEq a b = (a == b) := by
  cases a <;> cases b <;> simp only [intEq]
  · rename_i m n
    cases h : Nat.beq m n with
    | true => rw [Nat.eq_of_beq_eq_true h]; simp
    | false =>
      have := Nat.ne_of_beq_eq_false h
      symm
      simp only [beq_eq_false_iff_ne, ne_eq]
      intro e
      injection e with e
      exact this e
  · rfl
  · rfl
  · rename_i m n
    cases h : Nat.beq m n with
    | true => rw [Nat.eq_of_beq_eq_true h]; simp
    | false =>
      have := Nat.ne_of_beq_eq_false h
      symm
      simp only [beq_eq_false_iff_ne, ne_eq]
      intro e
      injection e with e
      exact this e
theorem kindEq_spec {a b : IntKind} (h : kindEq a b = true) : a = b := by cases a <;> cases b <;> first | rfl | cases h
theorem bytesEq_spec : ∀ (a b : List UInt8), bytesEq a b = (a == b)
  | [], [] => rfl
  | [], _ :: _ => rfl
  | _ :: _, [] => rfl
  | a :: x, b :: y => by
    simp only [bytesEq]
    rw [List.cons_beq_cons]
    cases h : Nat.beq a.toNat b.toNat with
    | true =>
      have : a = b := UInt8.toNat_inj.1 (Nat.eq_of_beq_eq_true h)
      subst this
      simp [bytesEq_spec x y]
    | false =>
      have : a ≠ b := fun e => Nat.ne_of_beq_eq_false h (by rw [e])
      have h2 : (a == b) = false := by simpa using this
      simp [h2]
theorem bytesLt_spec : ∀ (a b : List UInt8), bytesLt a b = Op.bytesLess a b
  | _, [] => by unfold bytesLt Op.bytesLess; rfl
  | [], _ :: _ => rfl
  | a :: x, b :: y => by
    simp only [bytesLt, Op.bytesLess]
    cases h : Nat.ble (a.toNat + 1) b.toNat with
    | true =>
      have : a < b := UInt8.lt_iff_toNat_lt.2 (Nat.le_of_ble_eq_true h)
      simp [this]
    | false =>
      have h0 : ¬ a.toNat + 1 ≤ b.toNat := fun hle => by rw [Nat.ble_eq_true_of_le hle] at h; cases h
      have : ¬ a < b := fun hlt => h0 (UInt8.lt_iff_toNat_lt.1 hlt)
      cases h1 : Nat.beq a.toNat b.toNat with
      | true =>
        have e : a = b := UInt8.toNat_inj.1 (Nat.eq_of_beq_eq_true h1)
        subst e
        simp [bytesLt_spec x y]
      | false =>
        have e : a ≠ b := fun e => Nat.ne_of_beq_eq_false h1 (by rw [e])
        simp [this, e]
theorem ba_toList (l : List UInt8) : (ByteArray.mk l.toArray).toList = l := by
  rw [ByteArray.toList_eq]
theorem ba_append (l m : List UInt8) : (ByteArray.mk l.toArray) ++ (ByteArray.mk m.toArray) = ByteArray.mk (l ++ m).toArray := by
  apply ByteArray.ext
  simp

section
variable {P : Program} {ν : Nm} {w : World}

theorem run_isAgg {t : TypeId} {b : Bool} (h : isAggT P t = some b) : (isAgg t).run P w = .ok b w := by
  unfold isAggT at h
  show (Sem.bind (underlying t) _).run P w = _
  rw [run_bind]
  cases hu : P.underlying t with
  | none => rw [hu] at h; cases h
  | some d =>
    rw [run_underlying hu]
    rw [hu] at h
    cases d <;> simp only [Option.some.injEq] at h <;> subst h <;> rfl
theorem sizeT_spec {t : TypeId} {n : Nat} (h : sizeT P t = some n) : ∃ i, P.info? t = some i ∧ i.size = n := by
  unfold sizeT at h
  cases hi : P.info? t with
  | none => rw [hi] at h; cases h
  | some i => rw [hi] at h; injection h with h; exact ⟨i, rfl, h⟩
theorem run_sizeT {t : TypeId} {n : Nat} (h : sizeT P t = some n) : (sizeOf t).run P w = .ok n w := by
  obtain ⟨i, hi, rfl⟩ := sizeT_spec h
  exact run_sizeOf hi
theorem isAggT_und {t : TypeId} {b : Bool} (h : isAggT P t = some b) : ∃ d, P.underlying t = some d ∧ (b = true → (∃ fs, d = .struct fs) ∨ ∃ n e, d = .array n e) ∧ (b = false → (∀ fs, d ≠ .struct fs) ∧ ∀ n e, d ≠ .array n e) := by
  unfold isAggT at h
  cases hu : P.underlying t with
  | none => rw [hu] at h; cases h
  | some d =>
    rw [hu] at h
    refine ⟨d, rfl, ?_, ?_⟩ <;> cases d <;> simp_all
theorem run_part {t : TypeId} {cs : List AV} {CS : List Value} {off : Nat} {v : AV} (hc : denL ν cs = some CS) (h : partA P t cs off = some v) : ∃ V, den ν v = some V ∧ (part t CS.toArray off).run P w = .ok V w := by
  unfold partA at h
  split at h
  · rename_i ha
    split at h
    · rename_i n hn
      rw [Option.map_eq_some_iff] at h
      obtain ⟨r, hr, rfl⟩ := h
      obtain ⟨h1, h2⟩ := denL_cut hc hr
      refine ⟨.agg ((CS.drop off).take n).toArray, by simp [den, h1], ?_⟩
      show (Sem.bind (isAgg t) _).run P w = _
      rw [run_bind, run_isAgg ha]
      show (Sem.bind (sizeOf t) _).run P w = _
      rw [run_bind, run_sizeT hn]
      show Result.ok _ w = _
      congr 2
      simp [List.extract_eq_take_drop]
    · cases h
  · rename_i ha
    obtain ⟨V, h1, h2⟩ := denL_get hc h
    refine ⟨V, h2, ?_⟩
    show (Sem.bind (isAgg t) _).run P w = _
    rw [run_bind, run_isAgg ha]
    simp only [Bool.false_eq_true, if_false, List.getElem?_toArray, h1]
    rfl
  · cases h
theorem partA_load {t : TypeId} {l : List AV} {L R : List Value} {off : Nat} {v : AV} (hl : denL ν l = some L) (h : partA P t l off = some v) : ∃ V, den ν v = some V ∧ loadOf P t (L ++ R) off = some V := by
  unfold partA at h
  split at h
  · rename_i ha
    split at h
    · rename_i n hn
      rw [Option.map_eq_some_iff] at h
      obtain ⟨r, hr, rfl⟩ := h
      obtain ⟨h1, h2⟩ := denL_cut hl hr
      obtain ⟨i, hi, rfl⟩ := sizeT_spec hn
      obtain ⟨d, hd, hag, _⟩ := isAggT_und ha
      have e : ((L ++ R).drop off).take i.size = (L.drop off).take i.size := by
        rcases Nat.eq_zero_or_pos i.size with h0 | h0
        · simp [h0]
        · have : off + i.size ≤ L.length := by simp at h2; omega
          rw [List.drop_append_of_le_length (by omega), List.take_append_of_le_length (by simp; omega)]
      refine ⟨.agg ((L.drop off).take i.size).toArray, by simp [den, h1], ?_⟩
      unfold loadOf
      rw [hd]
      rcases hag rfl with ⟨fs, rfl⟩ | ⟨n, el, rfl⟩ <;> simp only [hi, e, h2, if_true]
    · cases h
  · rename_i ha
    obtain ⟨V, h1, h2⟩ := denL_get hl h
    obtain ⟨d, hd, _, hna⟩ := isAggT_und ha
    refine ⟨V, h2, ?_⟩
    unfold loadOf
    rw [hd]
    have : (L ++ R)[off]? = some V := by
      rw [List.getElem?_append_left (List.getElem?_eq_some_iff.1 h1).1]
      exact h1
    cases d <;> first | exact this | (exact absurd rfl ((hna rfl).1 _)) | (exact absurd rfl ((hna rfl).2 _ _))
  · cases h
theorem zeroA_spec {t : TypeId} {v : AV} (h : zeroA P t = some v) : ∃ i z, P.info? t = some i ∧ i.zero = some z ∧ den ν v = some z := by
  unfold zeroA at h
  cases hi : P.info? t with
  | none => rw [hi] at h; cases h
  | some i =>
    rw [hi] at h
    simp only at h
    cases hz : i.zero with
    | none => rw [hz] at h; cases h
    | some z => rw [hz] at h; exact ⟨i, z, rfl, hz, ofV_den h⟩
theorem run_zeroA {t : TypeId} {v : AV} (h : zeroA P t = some v) : ∃ z, den ν v = some z ∧ (zeroValue t).run P w = .ok z w := by
  obtain ⟨i, z, hi, hz, hd⟩ := zeroA_spec (ν := ν) h
  refine ⟨z, hd, ?_⟩
  show (Sem.bind (typeInfo t) _).run P w = _
  rw [run_bind, run_info hi]
  simp only [hz]
  rfl

/-! ### operators -/
theorem run_intBin {op : BinOp} {k : IntKind} {x y : Int} {v : AV} (h : intBinA op k x y = some v) (ty : TypeId) : ∃ V, den ν v = some V ∧ (binOp op ty (.int k x) (.int k y)).run P w = .ok V w := by
  cases op <;> simp only [intBinA] at h <;> (try (cases h; done))
  case quo =>
    split at h
    · cases h
    · rename_i hne
      rw [intEq_spec] at hne
      injection h with h
      subst h
      refine ⟨_, rfl, ?_⟩
      simp only [binOp, ne_eq, not_true, if_false, Op.intDiv]
      rw [if_neg (by simpa using hne)]
      rfl
  case rem =>
    split at h
    · cases h
    · rename_i hne
      rw [intEq_spec] at hne
      injection h with h
      subst h
      refine ⟨_, rfl, ?_⟩
      simp only [binOp, ne_eq, not_true, if_false, Op.intDiv]
      rw [if_neg (by simpa using hne)]
      rfl
  all_goals
    injection h with h
    subst h
    refine ⟨_, rfl, ?_⟩
    simp only [binOp, ne_eq, not_true, if_false, Op.intArith, Op.intBits, Op.intCmp, intEq_spec]
    rfl
theorem run_shift {op : BinOp} {k k' : IntKind} {x y : Int} {v : AV} (h : shiftA op k x y = some v) (hop : op = .shl ∨ op = .shr) (ty : TypeId) : ∃ V, den ν v = some V ∧ (binOp op ty (.int k x) (.int k' y)).run P w = .ok V w := by
  unfold shiftA at h
  split at h
  · cases h
  · rename_i hy
    have hy : ¬ y < 0 := by simpa using hy
    rcases hop with rfl | rfl <;> simp only [Option.some.injEq] at h <;> subst h <;> refine ⟨_, rfl, ?_⟩ <;> simp only [binOp, Op.shift, if_neg hy] <;> rfl
theorem run_strBin {op : BinOp} {x y : List UInt8} {v : AV} (h : strBinA op x y = some v) (ty : TypeId) : ∃ V, den ν v = some V ∧ (binOp op ty (.string ⟨x.toArray⟩) (.string ⟨y.toArray⟩)).run P w = .ok V w := by
  cases op <;> simp only [strBinA] at h <;> (try (cases h; done))
  case add =>
    split at h
    · cases h
    · rename_i hy
      have hy : ¬ ((x.length + y.length : Nat) : Int) > IntKind.i64.max := by simpa using hy
      injection h with h
      subst h
      refine ⟨_, rfl, ?_⟩
      have e : ((ByteArray.mk x.toArray).size + (ByteArray.mk y.toArray).size : Nat) = x.length + y.length := rfl
      simp only [binOp, Op.stringOp, e, if_neg hy, ba_append]
      rfl
  all_goals
    injection h with h
    subst h
    refine ⟨_, rfl, ?_⟩
    simp only [binOp, Op.stringOp, ba_toList, bytesEq_spec, bytesLt_spec]
    rfl

theorem eqFieldsA_sound {D : Nat} {E : TypeId → AV → AV → Option Bool} (hE : ∀ t x y b X Y, E t x y = some b → den ν x = some X → den ν y = some Y → (Op.equalIn D t X Y).run P w = .ok b w) {xs ys : List AV} {XS YS : List Value}
    (hx : denL ν xs = some XS) (hy : denL ν ys = some YS) : ∀ (fs : List Field) {b : Bool}, eqFieldsA P E xs ys fs = some b →
    (forIn fs ((none : Option Bool), ()) fun f __s => if f.name ≠ "_" then
        (part f.type XS.toArray f.offset).bind fun x => (part f.type YS.toArray f.offset).bind fun y => (Op.equalIn D f.type x y).bind fun b =>
          if (!b) = true then (pure (ForInStep.done (some false, ())) : Sem _) else pure (ForInStep.yield (none, ()))
      else pure (ForInStep.yield (none, ()))).run P w = .ok (if b then (none, ()) else (some false, ())) w
  | [], b, h => by
    simp only [eqFieldsA, Option.some.injEq] at h
    subst h
    rfl
  | f :: fs, b, h => by
    unfold eqFieldsA at h
    rw [List.forIn_cons]
    show (Sem.bind _ _).run P w = _
    rw [run_bind]
    split at h
    · rename_i hn
      have hn : ¬ (f.name ≠ "_") := by simpa using hn
      rw [if_neg hn]
      exact eqFieldsA_sound hE hx hy fs h
    · rename_i hn
      have hn : f.name ≠ "_" := by simpa using hn
      rw [if_pos hn]
      split at h
      · rename_i x y h1 h2
        obtain ⟨X, hX, r1⟩ := run_part (P := P) (w := w) hx h1
        obtain ⟨Y, hY, r2⟩ := run_part (P := P) (w := w) hy h2
        rw [run_bind, r1]
        simp only []
        rw [run_bind, r2]
        simp only []
        split at h
        · rename_i he
          rw [run_bind, hE _ _ _ _ _ _ he hX hY]
          exact eqFieldsA_sound hE hx hy fs h
        · rename_i he
          rw [run_bind, hE _ _ _ _ _ _ he hX hY]
          injection h with h
          subst h
          rfl
        · cases h
      · cases h
theorem eqElemsA_sound {D : Nat} {e : TypeId} {size : Nat} {E : AV → AV → Option Bool} (hE : ∀ x y b X Y, E x y = some b → den ν x = some X → den ν y = some Y → (Op.equalIn D e X Y).run P w = .ok b w) {xs ys : List AV} {XS YS : List Value}
    (hx : denL ν xs = some XS) (hy : denL ν ys = some YS) : ∀ (n i : Nat) {b : Bool}, eqElemsA P E e size xs ys n i = some b →
    (forIn (List.range' i n) ((none : Option Bool), ()) fun i __s =>
        (part e XS.toArray (i * size)).bind fun x => (part e YS.toArray (i * size)).bind fun y => (Op.equalIn D e x y).bind fun b =>
          if (!b) = true then (pure (ForInStep.done (some false, ())) : Sem _) else pure (ForInStep.yield (none, ()))).run P w = .ok (if b then (none, ()) else (some false, ())) w
  | 0, i, b, h => by
    simp only [eqElemsA, Option.some.injEq] at h
    subst h
    rfl
  | n + 1, i, b, h => by
    unfold eqElemsA at h
    rw [List.range'_succ, List.forIn_cons]
    show (Sem.bind _ _).run P w = _
    rw [run_bind]
    split at h
    · rename_i x y h1 h2
      obtain ⟨X, hX, r1⟩ := run_part (P := P) (w := w) hx h1
      obtain ⟨Y, hY, r2⟩ := run_part (P := P) (w := w) hy h2
      rw [run_bind, r1]
      simp only []
      rw [run_bind, r2]
      simp only []
      split at h
      · rename_i he
        rw [run_bind, hE _ _ _ _ _ he hX hY]
        exact eqElemsA_sound hE hx hy n (i + 1) h
      · rename_i he
        rw [run_bind, hE _ _ _ _ _ he hX hY]
        injection h with h
        subst h
        rfl
      · cases h
    · cases h

theorem eqA_sound : ∀ (d D : Nat) (t : TypeId) (x y : AV) (b : Bool) (X Y : Value), d ≤ D → eqA P d t x y = some b → den ν x = some X → den ν y = some Y → (Op.equalIn D t X Y).run P w = .ok b w
  | 0, _, _, _, _, _, _, _, _, h, _, _ => by simp [eqA] at h
  | d + 1, 0, _, _, _, _, _, _, hd, _, _, _ => by omega
  | d + 1, D + 1, t, x, y, b, X, Y, hd, h, hX, hY => by
    have ih := fun (t : TypeId) (x y : AV) (b : Bool) (X Y : Value) => eqA_sound d D t x y b X Y (by omega)
    have go : ∀ {ds : TypeDesc} {s : TypeDesc → Sem Bool}, P.underlying t = some ds → (s ds).run P w = .ok b w → (Sem.bind (underlying t) s).run P w = .ok b w := fun hu hs => by
      rw [run_bind, run_underlying hu]; exact hs
    unfold eqA at h
    split at h
    · rename_i hu
      split at h
      · rename_i a c
        injection h with h
        simp only [den, Option.some.injEq] at hX hY
        subst hX hY h
        exact go hu rfl
      · cases h
    · rename_i k hu
      split at h
      · rename_i k a k' c
        split at h
        · rename_i hk
          have := kindEq_spec hk
          injection h with h
          simp only [den, Option.some.injEq] at hX hY
          subst hX hY h this
          refine go hu ?_
          simp only [if_true, intEq_spec]
          rfl
        · cases h
      · cases h
    · rename_i hu
      split at h
      · rename_i a c
        injection h with h
        simp only [den, Option.some.injEq] at hX hY
        subst hX hY h
        refine go hu ?_
        have e : ((ByteArray.mk a.toArray) == (ByteArray.mk c.toArray)) = (a == c) := by
          show (a.toArray == c.toArray) = _
          simp
        simp only [bytesEq_spec, e]
        rfl
      · cases h
    · rename_i el hu
      split at h
      · injection h with h
        simp only [den, Option.some.injEq] at hX hY
        subst hX hY h
        exact go hu rfl
      · injection h with h
        obtain ⟨g, _, rfl⟩ := ptr_den hY
        simp only [den, Option.some.injEq] at hX
        subst hX h
        exact go hu rfl
      · injection h with h
        obtain ⟨g, _, rfl⟩ := ptr_den hX
        simp only [den, Option.some.injEq] at hY
        subst hY h
        exact go hu rfl
      · cases h
    · rename_i el hu
      split at h
      · injection h with h
        simp only [den, Option.some.injEq] at hX hY
        subst hX hY h
        exact go hu rfl
      · injection h with h
        obtain ⟨g, n, _, _, _, rfl⟩ := slice_den hY
        simp only [den, Option.some.injEq] at hX
        subst hX h
        exact go hu rfl
      · injection h with h
        obtain ⟨g, n, _, _, _, rfl⟩ := slice_den hX
        simp only [den, Option.some.injEq] at hY
        subst hY h
        exact go hu rfl
      · cases h
    · rename_i el hu
      split at h
      · injection h with h
        simp only [den, Option.some.injEq] at hX hY
        subst hX hY h
        exact go hu rfl
      · injection h with h
        obtain ⟨g, _, rfl⟩ := map_den hY
        simp only [den, Option.some.injEq] at hX
        subst hX h
        exact go hu rfl
      · injection h with h
        obtain ⟨g, _, rfl⟩ := map_den hX
        simp only [den, Option.some.injEq] at hY
        subst hY h
        exact go hu rfl
      · cases h
    · rename_i hu
      split at h
      · injection h with h
        simp only [den, Option.some.injEq] at hX hY
        subst hX hY h
        exact go hu rfl
      · injection h with h
        obtain ⟨g, _, _, _, _, _, rfl⟩ := func_den hY
        simp only [den, Option.some.injEq] at hX
        subst hX h
        exact go hu rfl
      · injection h with h
        obtain ⟨g, _, _, _, _, _, rfl⟩ := func_den hX
        simp only [den, Option.some.injEq] at hY
        subst hY h
        exact go hu rfl
      · cases h
    · rename_i fields hu
      split at h
      · rename_i xs ys
        obtain ⟨XS, hxs, rfl⟩ := agg_den hX
        obtain ⟨YS, hys, rfl⟩ := agg_den hY
        split at h
        · cases h
        · rename_i hs
          rw [Op.equalIn]
          show (Sem.bind (underlying t) _).run P w = _
          rw [run_bind, run_underlying hu]
          simp only [program, bind, Sem.bind, Sem.run, hs]
          have := eqFieldsA_sound (P := P) (w := w) (D := D) (fun t x y b X Y => ih t x y b X Y) hxs hys fields.toList h
          rw [if_neg (by simp), run_bind]
          rw [← Array.forIn_toList, this]
          cases b <;> rfl
      · cases h
    · rename_i len el hu
      split at h
      · rename_i xs ys
        obtain ⟨XS, hxs, rfl⟩ := agg_den hX
        obtain ⟨YS, hys, rfl⟩ := agg_den hY
        split at h
        · rename_i n hn
          rw [Op.equalIn]
          show (Sem.bind (underlying t) _).run P w = _
          rw [run_bind, run_underlying hu]
          simp only [bind]
          rw [run_bind, run_sizeT hn]
          simp only []
          have := eqElemsA_sound (P := P) (w := w) (D := D) (e := el) (size := n) (fun x y b X Y => ih el x y b X Y) hxs hys len 0 h
          rw [run_bind, Std.Legacy.Range.forIn_eq_forIn_range']
          simp only [Std.Legacy.Range.size, Nat.sub_zero, Nat.add_sub_cancel, Nat.div_one]
          rw [this]
          cases b <;> rfl
        · cases h
      · cases h
    · cases h
end

end Go.Proofs.YtpifcidnpbkaoaaGreatDoor

/- The evaluator, 5: slices, literals, and operations that neither write nor make anything. No program in sight. -/
namespace Go.Proofs.YtpifcidnpbkaoaaGreatDoor
open Go Go.RowKit

section
variable {P : Program} {ν : Nm} {w : World}

theorem natOf_spec {v : AV} {n : Nat} (h : natOf v = some n) : ∃ k, v = .int k (.ofNat n) := by
  cases v <;> simp only [natOf] at h <;> try (cases h; done)
  rename_i k m
  cases m with
  | ofNat m => simp only [natOf, Option.some.injEq] at h; subst h; exact ⟨k, rfl⟩
  | negSucc m => simp [natOf] at h
theorem run_sliceBound {k : IntKind} {n y : Nat} (h : n ≤ y) (code : BoundsCode) : (Instr.sliceBound (.int k (.ofNat n)) y code).run P w = .ok n w := by
  unfold Instr.sliceBound
  show (Sem.bind (asIntOf _) _).run P w = _
  rw [run_bind]
  show (if (0 : Int) ≤ Int.ofNat n ∧ (Int.ofNat n : Int) ≤ y then _ else _ : Sem Nat).run P w = _
  rw [if_pos ⟨Int.natCast_nonneg n, Int.ofNat_le.2 h⟩]
  rfl
/-- an operand that may be missing -/
def optD (ν : Nm) : Option AV → Option Value → Prop
  | none, r => r = none
  | some v, r => ∃ V, den ν v = some V ∧ r = some V
theorem capLe_spec {n C : Nat} {c : Cap} (h : capLe n c = true) (hc : capOf ν c = some C) : n ≤ C := by
  cases c with
  | k m => simp only [capOf, Option.some.injEq] at hc; subst hc; exact Nat.le_of_ble_eq_true h
  | u c m => cases h
theorem limB_spec {len C : Nat} {c : Cap} (hc : capOf ν c = some C) (hlen : len ≤ C) {n : Nat} (hn : limB len c n = true) : n ≤ C := by
  unfold limB at hn
  simp only [Bool.or_eq_true] at hn
  rcases hn with hn | hn
  · exact Nat.le_trans (Nat.le_of_ble_eq_true hn) hlen
  · exact capLe_spec hn hc
theorem run_maxB {len C : Nat} {c : Cap} (hc : capOf ν c = some C) (hlen : len ≤ C) {mx : Option AV} {MX : Option Value} (h3 : optD ν mx MX) {m : Option Nat} (h : maxB len c mx = some m) (isS : Bool) {α : Type} (f : Nat → Sem α) :
    (match MX with
        | some v => Sem.bind (Instr.sliceBound v C (if isS then .slice3Acap else .slice3Alen)) f
        | none => Sem.bind (pure C) f).run P w = (f (m.getD C)).run P w ∧ m.getD C ≤ C ∧ (MX = none ↔ m = none) := by
  cases mx with
  | none =>
    simp only [optD] at h3
    simp only [maxB, Option.some.injEq] at h
    subst h3 h
    exact ⟨by rw [run_bind]; rfl, Nat.le_refl _, by simp⟩
  | some v =>
    obtain ⟨V, hV, rfl⟩ := h3
    simp only [maxB] at h
    split at h
    · rename_i n hn
      split at h
      · rename_i hl
        injection h with h
        subst h
        obtain ⟨k, rfl⟩ := natOf_spec hn
        simp only [den, Option.some.injEq] at hV
        subst hV
        have := limB_spec hc hlen hl
        refine ⟨?_, this, by simp⟩
        rw [run_bind, run_sliceBound this]
        rfl
      · cases h
    · cases h
theorem run_hiB {len C : Nat} {c : Cap} (hc : capOf ν c = some C) (hlen : len ≤ C) {hi : Option AV} {HI MX : Option Value} (h2 : optD ν hi HI) {m : Option Nat} (hm : m.getD C ≤ C) (hM : MX = none ↔ m = none) {h' : Nat} (h : hiB len c m hi = some h') (isS : Bool) {α : Type} (f : Nat → Sem α) :
    (match HI, MX with
        | some v, some _ => Sem.bind (Instr.sliceBound v (m.getD C) .slice3B) f
        | some v, none => Sem.bind (Instr.sliceBound v (m.getD C) (if isS then .sliceAcap else .sliceAlen)) f
        | none, none => Sem.bind (pure len) f
        | none, some _ => Sem.bind (stuck "Slice: max without high") f).run P w = (f h').run P w ∧ h' ≤ m.getD C := by
  cases hi with
  | none =>
    simp only [optD] at h2
    subst h2
    cases m with
    | some m => simp [hiB] at h
    | none =>
      have : MX = none := hM.2 rfl
      subst this
      simp only [hiB, Option.some.injEq] at h
      subst h
      exact ⟨by rw [run_bind]; rfl, hlen⟩
  | some v =>
    obtain ⟨V, hV, rfl⟩ := h2
    simp only [hiB] at h
    split at h
    · rename_i n hn
      obtain ⟨k, rfl⟩ := natOf_spec hn
      simp only [den, Option.some.injEq] at hV
      subst hV
      split at h
      · rename_i m
        split at h
        · rename_i hl
          injection h with h
          subst h
          have hl := Nat.le_of_ble_eq_true hl
          cases MX with
          | none => exact absurd (hM.1 rfl) (by simp)
          | some u =>
            simp only [Option.getD_some]
            refine ⟨?_, hl⟩
            rw [run_bind, run_sliceBound hl]
        · cases h
      · split at h
        · rename_i hl
          injection h with h
          subst h
          have hl := limB_spec hc hlen hl
          have : MX = none := hM.2 rfl
          subst this
          simp only [Option.getD_none]
          refine ⟨?_, hl⟩
          rw [run_bind, run_sliceBound hl]
        · cases h
    · cases h
theorem run_loB {h' : Nat} {lo : Option AV} {LO : Option Value} (h1 : optD ν lo LO) {l : Nat} (h : loB h' lo = some l) (code : BoundsCode) {α : Type} (f : Nat → Sem α) :
    (match LO with
        | some v => Sem.bind (Instr.sliceBound v h' code) f
        | none => Sem.bind (pure 0) f).run P w = (f l).run P w ∧ l ≤ h' := by
  cases lo with
  | none =>
    simp only [optD] at h1
    simp only [loB, Option.some.injEq] at h
    subst h1 h
    exact ⟨by rw [run_bind]; rfl, Nat.zero_le _⟩
  | some v =>
    obtain ⟨V, hV, rfl⟩ := h1
    simp only [loB] at h
    split at h
    · rename_i n hn
      split at h
      · rename_i hl
        injection h with h
        subst h
        obtain ⟨k, rfl⟩ := natOf_spec hn
        simp only [den, Option.some.injEq] at hV
        subst hV
        have := Nat.le_of_ble_eq_true hl
        refine ⟨?_, this⟩
        rw [run_bind, run_sliceBound this]
      · cases h
    · cases h
theorem run_bounds {len C : Nat} {c : Cap} (hc : capOf ν c = some C) (hlen : len ≤ C) {lo hi mx : Option AV} {LO HI MX : Option Value} (h1 : optD ν lo LO) (h2 : optD ν hi HI) (h3 : optD ν mx MX) {l h : Nat} {m : Option Nat}
    (hb : boundsA len c lo hi mx = some (l, h, m)) (isS : Bool) : (Instr.sliceBounds isS len C LO HI MX).run P w = .ok (l, h, m.getD C) w ∧ l ≤ h ∧ h ≤ m.getD C ∧ m.getD C ≤ C := by
  unfold boundsA at hb
  split at hb
  · cases hb
  · rename_i m' e1
    split at hb
    · cases hb
    · rename_i h' e2
      split at hb
      · cases hb
      · rename_i l' e3
        simp only [Option.some.injEq, Prod.mk.injEq] at hb
        obtain ⟨rfl, rfl, rfl⟩ := hb
        obtain ⟨_, a2, a3⟩ := run_maxB (P := P) (w := w) hc hlen h3 e1 isS (fun _ => (pure () : Sem Unit))
        obtain ⟨_, b2⟩ := run_hiB (P := P) (w := w) hc hlen h2 a2 a3 e2 isS (fun _ => (pure () : Sem Unit))
        obtain ⟨_, c2⟩ := run_loB (P := P) (w := w) h1 e3 .sliceB (fun _ => (pure () : Sem Unit))
        refine ⟨?_, c2, b2, a2⟩
        unfold Instr.sliceBounds
        refine ((run_maxB hc hlen h3 e1 isS _).1).trans ?_
        refine ((run_hiB hc hlen h2 a2 a3 e2 isS _).1).trans ?_
        exact (run_loB h1 e3 _ _).1

theorem selN_beq {a b : Nat} (x y : Nat) : selN (Nat.beq a b) x y = if a = b then x else y := by
  cases h : Nat.beq a b with
  | true => rw [if_pos (Nat.eq_of_beq_eq_true h)]; rfl
  | false => rw [if_neg (Nat.ne_of_beq_eq_false h)]; rfl
theorem add_if (g off m l n : Nat) : (if m = l then (⟨g, off, none⟩ : Addr) else (⟨g, off, none⟩ : Addr).add (l * n)) = ⟨g, if m = l then off else off + l * n, none⟩ := by
  split
  · rfl
  · rw [addr_add]

theorem run_slice {t : TypeId} {x v : AV} {X : Value} {lo hi mx : Option AV} {LO HI MX : Option Value} (hx : den ν x = some X) (h1 : optD ν lo LO) (h2 : optD ν hi HI) (h3 : optD ν mx MX) (h : sliceA P t x lo hi mx = some v) :
    ∃ V, den ν v = some V ∧ (Instr.sliceAt t X LO HI MX).run P w = .ok V w := by
  unfold sliceA at h
  split at h
  · -- a string
    rename_i s hu
    simp only [den, Option.some.injEq] at hx
    subst hx
    cases mx with
    | some m => cases h
    | none =>
      simp only at h
      split at h
      · rename_i l hh m hb
        injection h with h
        subst h
        obtain ⟨r, _, _, _⟩ := run_bounds (P := P) (w := w) (ν := ν) (C := s.length) (c := .k s.length) rfl (Nat.le_refl _) h1 h2 h3 hb false
        refine ⟨.string ((ByteArray.mk s.toArray).extract l hh), ?_, ?_⟩
        · simp only [den, Option.some.injEq, Value.string.injEq]
          apply ByteArray.ext
          simp [List.extract_eq_take_drop]
        · simp only [optD] at h3
          subst h3
          unfold Instr.sliceAt
          show (Sem.bind (underlying t) _).run P w = _
          rw [run_bind, run_underlying hu]
          unfold Instr.slice
          show (Sem.bind (underlying t) _).run P w = _
          rw [run_bind, run_underlying hu]
          simp only [Option.isSome_none, Bool.false_eq_true, if_false]
          show (Sem.bind (Instr.sliceBounds false (ByteArray.mk s.toArray).size (ByteArray.mk s.toArray).size LO HI none) _).run P w = _
          rw [run_bind]
          have e : (ByteArray.mk s.toArray).size = s.length := rfl
          rw [e, r]
          rfl
      · cases h
  · -- nil
    rename_i e hu
    simp only [den, Option.some.injEq] at hx
    subst hx
    split at h
    · rename_i q z hb hz
      obtain ⟨l, hh, m⟩ := q
      injection h with h
      subst h
      obtain ⟨r, i1, i2, i3⟩ := run_bounds (P := P) (w := w) (ν := ν) (C := 0) (c := .k 0) rfl (Nat.le_refl _) h1 h2 h3 hb true
      refine ⟨.slice none 0 0, rfl, ?_⟩
      unfold Instr.sliceAt
      show (Sem.bind (underlying t) _).run P w = _
      rw [run_bind, run_underlying hu]
      unfold Instr.slice
      show (Sem.bind (underlying t) _).run P w = _
      rw [run_bind, run_underlying hu]
      show (Sem.bind (Instr.sliceBounds true 0 0 LO HI MX) _).run P w = _
      rw [run_bind, r]
      show (Sem.bind (sizeOf e) _).run P w = _
      rw [run_bind, run_sizeT hz]
      show Result.ok (Value.slice _ _ _) w = _
      have e1 : m.getD 0 = 0 := by omega
      have e2 : hh = 0 := by omega
      have e3 : l = 0 := by omega
      simp [e1, e2, e3]
    · cases h
  · -- a slice
    rename_i e i off len c hu
    obtain ⟨g, C, hg, hC, hlen, rfl⟩ := slice_den hx
    have go : ∀ {l hh : Nat} {m : Option Nat} {z : Nat}, boundsA len c lo hi mx = some (l, hh, m) → sizeT P e = some z →
        (Instr.sliceAt t (.slice (some ⟨g, off, none⟩) len C) LO HI MX).run P w = .ok (.slice (some ⟨g, if m.getD C = l then off else off + l * z, none⟩) (hh - l) (m.getD C - l)) w ∧ l ≤ hh ∧ hh ≤ m.getD C ∧ m.getD C ≤ C := fun {l hh m z} hb hz => by
      obtain ⟨r, i1, i2, i3⟩ := run_bounds (P := P) (w := w) (ν := ν) hC hlen h1 h2 h3 hb true
      refine ⟨?_, i1, i2, i3⟩
      unfold Instr.sliceAt
      show (Sem.bind (underlying t) _).run P w = _
      rw [run_bind, run_underlying hu]
      unfold Instr.slice
      show (Sem.bind (underlying t) _).run P w = _
      rw [run_bind, run_underlying hu]
      show (Sem.bind (Instr.sliceBounds true len C LO HI MX) _).run P w = _
      rw [run_bind, r]
      show (Sem.bind (sizeOf e) _).run P w = _
      rw [run_bind, run_sizeT hz]
      show Result.ok (Value.slice _ _ _) w = _
      simp only [Option.map_some]
      rw [← add_if]
      split <;> rfl
    split at h
    · rename_i l hh z hb hz
      obtain ⟨r, i1, i2, i3⟩ := go hb hz
      simp only [Option.getD_none] at r i2
      cases c with
      | k n =>
        simp only [capOf, Option.some.injEq] at hC
        subst hC
        simp only [selN_beq, Option.some.injEq] at h
        subst h
        refine ⟨_, ?_, r⟩
        simp only [den, hg, capOf]
        rw [if_pos (by omega)]
      | u c m =>
        simp only [capOf] at hC
        split at hC
        · rename_i n hn
          split at hC
          · rename_i hmn
            injection hC with hC
            simp only at h
            split at h
            · rename_i h0
              have h0 := Nat.eq_of_beq_eq_true h0
              subst h0
              injection h with h
              subst h
              refine ⟨_, ?_, r⟩
              simp only [den, hg, capOf, hn, if_pos hmn]
              rw [if_pos (by omega)]
              simp [hC]
            · rename_i h0 h1'
              have h1' := Nat.le_of_ble_eq_true h1'
              injection h with h
              subst h
              refine ⟨_, ?_, r⟩
              simp only [den, hg, capOf, hn]
              rw [if_pos (show m + l ≤ n by omega)]
              simp only []
              rw [if_pos (by omega), if_neg (by omega)]
              congr 2
              omega
            · split at h
              · rename_i h2
                have h2 := Nat.eq_of_beq_eq_true h2
                injection h with h
                subst h
                refine ⟨_, ?_, r⟩
                simp only [den, hg, capOf, hn, if_pos hmn, hC, h2, Nat.sub_self]
                split
                · rename_i e
                  simp [e]
                · rfl
              · cases h
          · cases hC
        · cases hC
    · rename_i l hh m z hb hz
      obtain ⟨r, i1, i2, i3⟩ := go hb hz
      simp only [Option.getD_some] at r i2 i3
      simp only [selN_beq, Option.some.injEq] at h
      subst h
      refine ⟨_, ?_, r⟩
      simp only [den, hg, capOf]
      rw [if_pos (by omega)]
    · cases h
  · -- an array
    rename_i n e i off hu
    obtain ⟨g, hg, rfl⟩ := ptr_den hx
    split at h
    · rename_i l hh m z hb hz
      obtain ⟨r, i1, i2, i3⟩ := run_bounds (P := P) (w := w) (ν := ν) (C := n) (c := .k n) rfl (Nat.le_refl _) h1 h2 h3 hb false
      simp only [selN_beq, Option.some.injEq] at h
      subst h
      refine ⟨.slice (some ⟨g, if m.getD n = l then off else off + l * z, none⟩) (hh - l) (m.getD n - l), ?_, ?_⟩
      · simp only [den, hg, capOf]
        rw [if_pos (by omega)]
      · unfold Instr.sliceAt
        show (Sem.bind (underlying t) _).run P w = _
        rw [run_bind, run_underlying hu]
        show (Sem.bind (Instr.sureAddr _) _).run P w = _
        rw [run_bind]
        show (Sem.bind (Instr.sliceBounds false n n LO HI MX) _).run P w = _
        rw [run_bind, r]
        show (Sem.bind (sizeOf e) _).run P w = _
        rw [run_bind, run_sizeT hz]
        show Result.ok (Value.slice _ _ _) w = _
        rw [← add_if]
    · cases h
  · cases h

/-! ### literals -/
def PRel (ν : Nm) (p : Nat × AV) (q : Nat × Value) : Prop := p.1 = q.1 ∧ den ν p.2 = some q.2

theorem overlay_zip (off : Nat) : ∀ (vs : List Value) (k : Nat) (arr : Array Value), ((vs.zipIdx k).foldl (fun cs p => cs.setIfInBounds (off + p.2) p.1) arr).toList = overlay arr.toList (off + k) vs
  | [], _, _ => rfl
  | v :: vs, k, arr => by
    rw [List.zipIdx_cons, List.foldl_cons, overlay_zip off vs (k + 1)]
    simp [overlay, Nat.add_assoc]
theorem run_fill {pl : Nat → Option (Nat × Nat)} : ∀ {ps : List (Nat × AV)} {qs : List (Nat × Value)} {l r : List AV} {arr : Array Value}, All2 (PRel ν) ps qs → denL ν l = some arr.toList → fillA pl l ps = some r → ∃ arr', Instr.fill pl arr qs = some arr' ∧ denL ν r = some arr'.toList
  | [], [], l, r, arr, _, hl, h => by
    simp only [fillA, Option.some.injEq] at h
    subst h
    exact ⟨arr, rfl, hl⟩
  | (i, v) :: ps, (j, V) :: qs, l, r, arr, hp, hl, h => by
    obtain ⟨⟨e, hv⟩, hp⟩ := hp
    simp only at e hv
    subst e
    unfold fillA at h
    unfold Instr.fill
    cases hpl : pl i with
    | none => rw [hpl] at h; cases h
    | some os =>
      obtain ⟨off, size⟩ := os
      rw [hpl] at h
      simp only at h ⊢
      split at h
      · rename_i hc
        simp only [Bool.and_eq_true] at hc
        obtain ⟨⟨c1, c2⟩, c3⟩ := hc
        have c1 := Nat.eq_of_beq_eq_true c1
        have c2 := Nat.le_of_ble_eq_true c2
        have hcells := cells_den hv c3
        have hlen : V.cells.size = size := by
          have := denL_len hcells
          simp at this
          omega
        have hll : arr.size = l.length := by have := denL_len hl; simpa using this
        have cond : (decide (V.cells.size ≠ size) || decide (off + V.cells.size > arr.size)) = false := by
          rw [Bool.or_eq_false_iff, decide_eq_false_iff_not, decide_eq_false_iff_not]
          exact ⟨fun hne => hne hlen, by omega⟩
        rw [cond]
        simp only [Bool.false_eq_true, if_false]
        refine run_fill hp ?_ h
        have : (V.cells.zipIdx.foldl (fun cs p => cs.setIfInBounds (off + p.2) p.1) arr).toList = overlay arr.toList off V.cells.toList := by
          rw [← Array.foldl_toList]
          have := overlay_zip off V.cells.toList 0 arr
          simpa using this
        show denL ν _ = some (V.cells.zipIdx.foldl (fun cs p => cs.setIfInBounds (off + p.2) p.1) arr).toList
        rw [this]
        exact denL_over off hl hcells
      · cases h
  | [], _ :: _, _, _, _, hp, _, _ => hp.elim
  | _ :: _, [], _, _, _, hp, _, _ => hp.elim
theorem run_mapM {α β : Type} {f : α → Option β} {g : α → Sem β} (hg : ∀ x y, f x = some y → (g x).run P w = .ok y w) : ∀ {l : List α} {m : List β}, mapO f l = some m → (l.mapM g).run P w = .ok m w
  | [], m, h => by
    simp only [mapO, Option.some.injEq] at h
    subst h
    rfl
  | x :: l, m, h => by
    simp only [mapO] at h
    split at h
    · cases h
    · rename_i y hy
      split at h
      · cases h
      · rename_i r hr
        injection h with h
        subst h
        rw [List.mapM_cons]
        show (Sem.bind (g x) _).run P w = _
        rw [run_bind, hg x y hy]
        show (Sem.bind (l.mapM g) _).run P w = _
        rw [run_bind, run_mapM hg hr]
        rfl
theorem run_build {t : TypeId} {ps : List (Nat × AV)} {qs : Array (Nat × Value)} {v : AV} (hp : All2 (PRel ν) ps qs.toList) (h : buildA P t ps = some v) (hz1 : True) : ∃ V, den ν v = some V ∧ (Instr.build t qs).run P w = .ok V w := by
  unfold buildA at h
  split at h
  · cases h
  · rename_i z hz
    obtain ⟨Z, hZ, rz⟩ := run_zeroA (P := P) (ν := ν) (w := w) hz
    have hzc : denL ν (cellsA z) = some Z.cells.toList := by
      cases z
      case agg l =>
        obtain ⟨L, hL, rfl⟩ := agg_den hZ
        simpa [cellsA, Value.cells] using hL
      case tup l =>
        obtain ⟨L, hL, rfl⟩ := tup_den hZ
        simp [cellsA, denL, hZ, Value.cells]
      all_goals
        rw [show cellsA _ = [_] from rfl, (one_den rfl hZ).2.2]
        simp [denL, hZ]
    unfold Instr.build
    split at h
    · rename_i fields hu
      split at h
      · rename_i pl hpl
        rw [Option.map_eq_some_iff] at h
        obtain ⟨r, hr, rfl⟩ := h
        show ∃ V, _ ∧ (Sem.bind (zeroValue t) _).run P w = _
        rw [run_bind, rz]
        show ∃ V, _ ∧ (Sem.bind (underlying t) _).run P w = _
        rw [run_bind, run_underlying hu]
        show ∃ V, _ ∧ (Sem.bind (fields.mapM fun f => _) _).run P w = _
        have hm : (fields.mapM fun f => (do pure (f.offset, ← sizeOf f.type) : Sem (Nat × Nat))).run P w = .ok pl.toArray w := by
          rw [Array.mapM_eq_mapM_toList, ← bind_pure_comp]
          show (Sem.bind _ _).run P w = _
          rw [run_bind, run_mapM (f := fun f : Field => (sizeT P f.type).map fun n => (f.offset, n)) (fun f y hy => by
            rw [Option.map_eq_some_iff] at hy
            obtain ⟨n, hn, rfl⟩ := hy
            show (Sem.bind (sizeOf f.type) _).run P w = _
            rw [run_bind, run_sizeT hn]
            rfl) hpl]
          rfl
        rw [run_bind, hm]
        simp only []
        obtain ⟨arr', h1, h2⟩ := run_fill (ν := ν) (pl := fun (i : Nat) => pl[i]?) (arr := Z.cells) hp hzc hr
        have e : (fun (i : Nat) => (pl.toArray)[i]?) = fun (i : Nat) => pl[i]? := by funext i; simp
        refine ⟨.agg arr', by simp [den, h2], ?_⟩
        simp only [e, h1]
        rfl
      · cases h
    · rename_i n e hu
      split at h
      · rename_i size hs
        rw [Option.map_eq_some_iff] at h
        obtain ⟨r, hr, rfl⟩ := h
        show ∃ V, _ ∧ (Sem.bind (zeroValue t) _).run P w = _
        rw [run_bind, rz]
        show ∃ V, _ ∧ (Sem.bind (underlying t) _).run P w = _
        rw [run_bind, run_underlying hu]
        show ∃ V, _ ∧ (Sem.bind (sizeOf e) _).run P w = _
        rw [run_bind, run_sizeT hs]
        simp only []
        obtain ⟨arr', h1, h2⟩ := run_fill (ν := ν) (pl := fun i => some (i * size, size)) (arr := Z.cells) hp hzc hr
        refine ⟨.agg arr', by simp [den, h2], ?_⟩
        simp only [h1]
        rfl
      · cases h
    · cases h
end

end Go.Proofs.YtpifcidnpbkaoaaGreatDoor
