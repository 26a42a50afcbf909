/- The evaluator, 2: what values and memory stand for. No program in sight. -/
import Derived.Test.YtcjbpaiomcfgnaaGreatDoorGa
import Derived.Deep.AppendSrc
import Derived.RangeFuncRecord
import Derived.Laws.Strings
import Derived.Deep.Upon
set_option linter.unusedVariables false
set_option linter.unusedSimpArgs false
namespace Go.Proofs.YtcjbpaiomcfgnaaGreatDoor
open Go Go.RowKit
section
variable {α : Type}
theorem Tr.get_e (i : Nat) : (Tr.e : Tr α).get i = none := rfl
theorem Tr.get_n (l : Tr α) (v : Option α) (r : Tr α) (i : Nat) : (Tr.n l v r).get i = if i = 0 then v else if i % 2 = 1 then l.get (i / 2) else r.get (i / 2 - 1) := by
 conv => lhs; unfold Tr.get
 cases h : Nat.beq i 0 with
 | true => rw [if_pos (Nat.eq_of_beq_eq_true h)]
 | false =>
  rw [if_neg (Nat.ne_of_beq_eq_false h)]
  show (match Nat.beq (i % 2) 1 with | true => _ | false => _) = _
  cases h1 : Nat.beq (i % 2) 1 with
  | true => rw [if_pos (Nat.eq_of_beq_eq_true h1)]; rfl
  | false => rw [if_neg (Nat.ne_of_beq_eq_false h1)]; rfl
theorem Tr.setN_e (x : Option α) (k i : Nat) : Tr.setN x (k + 1) .e i = if i = 0 then .n .e x .e else if i % 2 = 1 then .n (Tr.setN x k .e (i / 2)) none .e else .n .e none (Tr.setN x k .e (i / 2 - 1)) := by
 conv => lhs; unfold Tr.setN
 cases h : Nat.beq i 0 with
 | true => rw [if_pos (Nat.eq_of_beq_eq_true h)]
 | false =>
  rw [if_neg (Nat.ne_of_beq_eq_false h)]
  show (match Nat.beq (i % 2) 1 with | true => _ | false => _) = _
  cases h1 : Nat.beq (i % 2) 1 with
  | true => rw [if_pos (Nat.eq_of_beq_eq_true h1)]; rfl
  | false => rw [if_neg (Nat.ne_of_beq_eq_false h1)]; rfl
theorem Tr.setN_n (x : Option α) (k i : Nat) (l : Tr α) (v : Option α) (r : Tr α) : Tr.setN x (k + 1) (.n l v r) i = if i = 0 then .n l x r else if i % 2 = 1 then .n (Tr.setN x k l (i / 2)) v r else .n l v (Tr.setN x k r (i / 2 - 1)) := by
 conv => lhs; unfold Tr.setN
 cases h : Nat.beq i 0 with
 | true => rw [if_pos (Nat.eq_of_beq_eq_true h)]
 | false =>
  rw [if_neg (Nat.ne_of_beq_eq_false h)]
  show (match Nat.beq (i % 2) 1 with | true => _ | false => _) = _
  cases h1 : Nat.beq (i % 2) 1 with
  | true => rw [if_pos (Nat.eq_of_beq_eq_true h1)]; rfl
  | false => rw [if_neg (Nat.ne_of_beq_eq_false h1)]; rfl
theorem Tr.get_setN (x : Option α) : ∀ (k : Nat) (t : Tr α) (i j : Nat), i < k → (Tr.setN x k t i).get j = if j = i then x else t.get j
 | 0, _, _, _, h => by omega
 | k + 1, .e, i, j, h => by
  rw [Tr.setN_e]
  by_cases hi : i = 0
  ·rw [if_pos hi, Tr.get_n]
   subst hi
   by_cases hj : j = 0
   ·rw [if_pos hj, if_pos hj]
   ·rw [if_neg hj, if_neg hj]; simp [Tr.get_e]
  ·rw [if_neg hi]
   by_cases hi2 : i % 2 = 1
   ·rw [if_pos hi2, Tr.get_n, Tr.get_setN x k .e (i / 2) (j / 2) (by omega)]
    by_cases hj : j = 0
    ·rw [if_pos hj, if_neg (by omega)]; rfl
    ·rw [if_neg hj]
     by_cases hj2 : j % 2 = 1
     ·rw [if_pos hj2]
      by_cases e : j = i
      ·rw [if_pos (by omega), if_pos e]
      ·rw [if_neg (by omega), if_neg e]; rfl
     ·rw [if_neg hj2, if_neg (by omega)]; rfl
   ·rw [if_neg hi2, Tr.get_n, Tr.get_setN x k .e (i / 2 - 1) (j / 2 - 1) (by omega)]
    by_cases hj : j = 0
    ·rw [if_pos hj, if_neg (by omega)]; rfl
    ·rw [if_neg hj]
     by_cases hj2 : j % 2 = 1
     ·rw [if_pos hj2, if_neg (by omega)]; rfl
     ·rw [if_neg hj2]
      by_cases e : j = i
      ·rw [if_pos (by omega), if_pos e]
      ·rw [if_neg (by omega), if_neg e]; rfl
 | k + 1, .n l v r, i, j, h => by
  rw [Tr.setN_n]
  by_cases hi : i = 0
  ·rw [if_pos hi, Tr.get_n, Tr.get_n]
   subst hi
   by_cases hj : j = 0
   ·rw [if_pos hj, if_pos hj]
   ·rw [if_neg hj, if_neg hj, if_neg hj]
  ·rw [if_neg hi]
   by_cases hi2 : i % 2 = 1
   ·rw [if_pos hi2, Tr.get_n, Tr.get_setN x k l (i / 2) (j / 2) (by omega), Tr.get_n]
    by_cases hj : j = 0
    ·rw [if_pos hj, if_neg (by omega), if_pos hj]
    ·rw [if_neg hj, if_neg hj]
     by_cases hj2 : j % 2 = 1
     ·rw [if_pos hj2, if_pos hj2]
      by_cases e : j = i
      ·rw [if_pos (by omega), if_pos e]
      ·rw [if_neg (by omega), if_neg e]
     ·rw [if_neg hj2, if_neg hj2, if_neg (by omega)]
   ·rw [if_neg hi2, Tr.get_n, Tr.get_setN x k r (i / 2 - 1) (j / 2 - 1) (by omega), Tr.get_n]
    by_cases hj : j = 0
    ·rw [if_pos hj, if_neg (by omega), if_pos hj]
    ·rw [if_neg hj, if_neg hj]
     by_cases hj2 : j % 2 = 1
     ·rw [if_pos hj2, if_pos hj2, if_neg (by omega)]
     ·rw [if_neg hj2, if_neg hj2]
      by_cases e : j = i
      ·rw [if_pos (by omega), if_pos e]
      ·rw [if_neg (by omega), if_neg e]
theorem Tr.get_put (t : Tr α) (i j : Nat) (x : Option α) : (t.put i x).get j = if j = i then x else t.get j := Tr.get_setN x (i + 1) t i j (by omega)
end
structure Nm where
 f : Nat → Option Nat
 x : Nat → Option Dat
 u : Int
 z : Nat → Option Obj
instance : CoeFun Nm fun _ => Nat → Option Nat := ⟨Nm.f⟩
structure Nm.le (ν ν' : Nm) : Prop where
 f : ∀ i g, ν i = some g → ν' i = some g
 x : ∀ i d, ν.x i = some d → ν'.x i = some d
 u : ν'.u = ν.u
 xe : ∀ j, j < atoms0 → ν'.x j = ν.x j
 z : ∀ g o, ν.z g = some o → ν'.z g = some o
instance (ν ν' : Nm) : CoeFun (Nm.le ν ν') fun _ => ∀ i g, ν i = some g → ν' i = some g := ⟨Nm.le.f⟩
theorem Nm.le.refl (ν : Nm) : Nm.le ν ν := ⟨fun _ _ h => h, fun _ _ h => h, rfl, fun _ _ => rfl, fun _ _ h => h⟩
theorem Nm.le.trans {a b c : Nm} (h : Nm.le a b) (k : Nm.le b c) : Nm.le a c := ⟨fun i g hi => k i g (h i g hi), fun i g hi => k.x i g (h.x i g hi), k.u.trans h.u, fun j hj => (k.xe j hj).trans (h.xe j hj), fun g o hg => k.z g o (h.z g o hg)⟩
def capOf (ν : Nm) : Cap → Option Nat
 | .k n => some n
 | .u c m => match ν c with
  | some n => if m ≤ n then some (n - m) else none
  | none => none
def fnOf (ν : Nm) : AFn → Option Fn
 | .func f => some (.func f)
 | .yield l => match ν l with
  | some g => some (.yield g)
  | none => none
def binZ (op : BinOp) (k : IntKind) (x y : Int) : Option Dat :=
 match intBinA op k x y with
 | some (.int _ n) => some (.n n)
 | some (.bool b) => some (.n (if b then 1 else 0))
 | _ => none
mutual
noncomputable def denT (ν : Nm) : Tm → Option Dat
 | .c n => some (.n n)
 | .x i => ν.x i
 | .bin o k a b => match denT ν a, denT ν b with
  | some (.n x), some (.n y) => binZ o k x y
  | _, _ => none
 | .conv k a => match denT ν a with
  | some (.n x) => some (.n (k.wrap x))
  | _ => none
 | .f o l => match denTs ν l with
  | some ds => match limF o with
   | true => match ds with
    | [] => some (.n ν.u)
    | _ => none
   | false => stdU o ds
  | none => none
noncomputable def denTs (ν : Nm) : List Tm → Option (List Dat)
 | [] => some []
 | t :: l => match denT ν t, denTs ν l with
  | some d, some ds => some (d :: ds)
  | _, _ => none
end
mutual
theorem denT_mono {ν ν' : Nm} (h : Nm.le ν ν') : ∀ (t : Tm) (d : Dat), denT ν t = some d → denT ν' t = some d
 | .c _, _, hd => by simpa [denT] using hd
 | .x i, d, hd => by simp only [denT] at hd ⊢; exact h.x i d hd
 | .bin o k a b, d, hd => by
  simp only [denT] at hd ⊢
  cases ha : denT ν a with
  | none => rw [ha] at hd; cases hd
  | some x =>
   cases hb : denT ν b with
   | none => rw [ha, hb] at hd; cases x <;> cases hd
   | some y => rw [ha, hb] at hd; rw [denT_mono h a x ha, denT_mono h b y hb]; exact hd
 | .conv k a, d, hd => by
  simp only [denT] at hd ⊢
  cases ha : denT ν a with
  | none => rw [ha] at hd; cases hd
  | some x => rw [ha] at hd; rw [denT_mono h a x ha]; exact hd
 | .f o l, d, hd => by
  simp only [denT] at hd ⊢
  cases ha : denTs ν l with
  | none => rw [ha] at hd; cases hd
  | some x => rw [ha] at hd; rw [denTs_mono h l x ha, h.u]; exact hd
theorem denTs_mono {ν ν' : Nm} (h : Nm.le ν ν') : ∀ (t : List Tm) (d : List Dat), denTs ν t = some d → denTs ν' t = some d
 | [], _, hd => by simpa [denTs] using hd
 | a :: l, d, hd => by
  simp only [denTs] at hd ⊢
  cases ha : denT ν a with
  | none => rw [ha] at hd; cases hd
  | some x =>
   cases hb : denTs ν l with
   | none => rw [ha, hb] at hd; cases hd
   | some y => rw [ha, hb] at hd; rw [denT_mono h a x ha, denTs_mono h l y hb]; exact hd
end
mutual
noncomputable def den (ν : Nm) : AV → Option Value
 | .bool b => some (.bool b)
 | .int k n => some (.int k n)
 | .str s => some (.string ⟨s.toArray⟩)
 | .nptr => some (.pointer none)
 | .ptr i off => match ν i with
  | some g => some (.pointer (some ⟨g, off, none⟩))
  | none => none
 | .nslice => some (.slice none 0 0)
 | .slice i off len c => match ν i, capOf ν c with
  | some g, some n => if len ≤ n then some (.slice (some ⟨g, off, none⟩) len n) else none
  | _, _ => none
 | .nmap => some (.map none)
 | .map i => match ν i with
  | some g => some (.map (some g))
  | none => none
 | .func f first cap => match fnOf ν f, denL ν first, denL ν cap with
  | some fn, some a, some b => some (.func fn a.toArray b.toArray)
  | _, _, _ => none
 | .nfunc => some .nilFunc
 | .iface t v => match den ν v with
  | some V => some (.iface t V)
  | none => none
 | .niface => some .nilIface
 | .agg l => match denL ν l with
  | some L => some (.agg L.toArray)
  | none => none
 | .tup l => match denL ν l with
  | some L => some (.tuple L.toArray)
  | none => none
 | .ext i => match ν.x i with
  | some (.v v) => if v.oneCell' = true then some v else none
  | _ => none
 | .glob g off => some (.pointer (some ⟨g, off, none⟩))
 | .sym k t => match denT ν t with
  | some (.n n) => some (.int k n)
  | _ => none
 | .symB t => match denT ν t with
  | some (.n n) => some (.bool (decide (n ≠ 0)))
  | _ => none
 | .tail i off o2 len c m => match ν i, capOf ν (.u c m) with
  | some g, some n => if n = len then some (.slice (some ⟨g, off, none⟩) 0 0) else some (.slice (some ⟨g, o2, none⟩) 0 (n - len))
  | _, _ => none
 | .symS t => match denT ν t with
  | some (.s l) => some (.string ⟨l.toArray⟩)
  | _ => none
 | .deep e t => match denT ν t with
  | some (.r e' v _) => if e' = e ∧ v.oneCell' = true then some v else none
  | _ => none
 | .dptr e sz t i off => match denT ν t, denT ν i with
  | some (.r e' (.slice (some ⟨g, o, none⟩) _ _) xs), some (.n k) => if e' = e ∧ 0 ≤ k ∧ k.toNat < xs.length then some (.pointer (some ⟨g, o + k.toNat * sz + off, none⟩)) else none
  | _, _ => none
 | .sslice i len c => match ν i, denT ν len, capOf ν c with
  | some g, some (.n n), some m => if 0 ≤ n ∧ n.toNat ≤ m then some (.slice (some ⟨g, 0, none⟩) n.toNat m) else none
  | _, _, _ => none
noncomputable def denL (ν : Nm) : List AV → Option (List Value)
 | [] => some []
 | v :: l => match den ν v, denL ν l with
  | some V, some L => some (V :: L)
  | _, _ => none
end
theorem capOf_mono {ν ν' : Nm} (h : Nm.le ν ν') {c : Cap} {n : Nat} (hc : capOf ν c = some n) : capOf ν' c = some n := by
 cases c with
 | k m => exact hc
 | u c m =>
  simp only [capOf] at hc ⊢
  cases hn : ν c with
  | none => rw [hn] at hc; cases hc
  | some g => rw [hn] at hc; rw [h c g hn]; exact hc
theorem fnOf_mono {ν ν' : Nm} (h : Nm.le ν ν') {c : AFn} {n : Fn} (hc : fnOf ν c = some n) : fnOf ν' c = some n := by
 cases c with
 | func m => exact hc
 | yield c =>
  simp only [fnOf] at hc ⊢
  cases hn : ν c with
  | none => rw [hn] at hc; cases hc
  | some g => rw [hn] at hc; rw [h c g hn]; exact hc
mutual
theorem den_mono {ν ν' : Nm} (h : Nm.le ν ν') : ∀ (v : AV) (V : Value), den ν v = some V → den ν' v = some V
 | .bool _, _, hv => by simpa [den] using hv
 | .int _ _, _, hv => by simpa [den] using hv
 | .str _, _, hv => by simpa [den] using hv
 | .nptr, _, hv => by simpa [den] using hv
 | .ptr i off, V, hv => by
  simp only [den] at hv ⊢
  cases hn : ν i with
  | none => rw [hn] at hv; cases hv
  | some g => rw [hn] at hv; rw [h i g hn]; exact hv
 | .nslice, _, hv => by simpa [den] using hv
 | .slice i off len c, V, hv => by
  simp only [den] at hv ⊢
  cases hn : ν i with
  | none => rw [hn] at hv; cases hv
  | some g =>
   rw [hn] at hv; rw [h i g hn]
   cases hc : capOf ν c with
   | none => rw [hc] at hv; cases hv
   | some n => rw [hc] at hv; rw [capOf_mono h hc]; exact hv
 | .nmap, _, hv => by simpa [den] using hv
 | .map i, V, hv => by
  simp only [den] at hv ⊢
  cases hn : ν i with
  | none => rw [hn] at hv; cases hv
  | some g => rw [hn] at hv; rw [h i g hn]; exact hv
 | .func f a b, V, hv => by
  simp only [den] at hv ⊢
  cases hf : fnOf ν f with
  | none => rw [hf] at hv; cases hv
  | some fn =>
   rw [hf] at hv; rw [fnOf_mono h hf]
   cases ha : denL ν a with
   | none => rw [ha] at hv; cases hv
   | some A =>
    rw [ha] at hv; rw [denL_mono h a A ha]
    cases hb : denL ν b with
    | none => rw [hb] at hv; cases hv
    | some B => rw [hb] at hv; rw [denL_mono h b B hb]; exact hv
 | .nfunc, _, hv => by simpa [den] using hv
 | .iface t v, V, hv => by
  simp only [den] at hv ⊢
  cases hn : den ν v with
  | none => rw [hn] at hv; cases hv
  | some U => rw [hn] at hv; rw [den_mono h v U hn]; exact hv
 | .niface, _, hv => by simpa [den] using hv
 | .agg l, V, hv => by
  simp only [den] at hv ⊢
  cases hn : denL ν l with
  | none => rw [hn] at hv; cases hv
  | some U => rw [hn] at hv; rw [denL_mono h l U hn]; exact hv
 | .tup l, V, hv => by
  simp only [den] at hv ⊢
  cases hn : denL ν l with
  | none => rw [hn] at hv; cases hv
  | some U => rw [hn] at hv; rw [denL_mono h l U hn]; exact hv
 | .ext i, V, hv => by
  simp only [den] at hv ⊢
  cases hn : ν.x i with
  | none => rw [hn] at hv; cases hv
  | some d => rw [hn] at hv; rw [h.x i d hn]; exact hv
 | .glob _ _, _, hv => by simpa [den] using hv
 | .sym k t, V, hv => by
  simp only [den] at hv ⊢
  cases hn : denT ν t with
  | none => rw [hn] at hv; cases hv
  | some d => rw [hn] at hv; rw [denT_mono h t d hn]; exact hv
 | .symB t, V, hv => by
  simp only [den] at hv ⊢
  cases hn : denT ν t with
  | none => rw [hn] at hv; cases hv
  | some d => rw [hn] at hv; rw [denT_mono h t d hn]; exact hv
 | .tail i off o2 len c m, V, hv => by
  simp only [den] at hv ⊢
  cases hn : ν i with
  | none => rw [hn] at hv; cases hv
  | some g =>
   rw [hn] at hv; rw [h i g hn]
   cases hc : capOf ν (.u c m) with
   | none => rw [hc] at hv; cases hv
   | some n => rw [hc] at hv; rw [capOf_mono h hc]; exact hv
 | .symS t, V, hv => by
  simp only [den] at hv ⊢
  cases hn : denT ν t with
  | none => rw [hn] at hv; cases hv
  | some d => rw [hn] at hv; rw [denT_mono h t d hn]; exact hv
 | .deep e t, V, hv => by
  simp only [den] at hv ⊢
  cases hn : denT ν t with
  | none => rw [hn] at hv; cases hv
  | some d => rw [hn] at hv; rw [denT_mono h t d hn]; exact hv
 | .dptr e sz t i off, V, hv => by
  simp only [den] at hv ⊢
  cases hn : denT ν t with
  | none => rw [hn] at hv; cases hv
  | some d =>
   cases hi : denT ν i with
   | none => rw [hn, hi] at hv; split at hv <;> simp_all
   | some e => rw [hn, hi] at hv; rw [denT_mono h t d hn, denT_mono h i e hi]; exact hv
 | .sslice i len c, V, hv => by
  simp only [den] at hv ⊢
  cases hn : ν i with
  | none => rw [hn] at hv; cases hv
  | some g =>
   rw [hn] at hv; rw [h i g hn]
   cases hl : denT ν len with
   | none => rw [hl] at hv; cases hv
   | some d =>
    rw [hl] at hv; rw [denT_mono h len d hl]
    cases hc : capOf ν c with
    | none => rw [hc] at hv; split at hv <;> simp_all
    | some n => rw [hc] at hv; rw [capOf_mono h hc]; exact hv
theorem denL_mono {ν ν' : Nm} (h : Nm.le ν ν') : ∀ (l : List AV) (L : List Value), denL ν l = some L → denL ν' l = some L
 | [], _, hl => by simpa [denL] using hl
 | v :: l, L, hl => by
  simp only [denL] at hl ⊢
  cases hv : den ν v with
  | none => rw [hv] at hl; cases hl
  | some V =>
   rw [hv] at hl; rw [den_mono h v V hv]
   cases hr : denL ν l with
   | none => rw [hr] at hl; cases hl
   | some R => rw [hr] at hl; rw [denL_mono h l R hr]; exact hl
end
section
variable {ν : Nm}
theorem denL_nil {L : List Value} (h : denL ν [] = some L) : L = [] := by simpa [denL] using h.symm
theorem denL_cons {v : AV} {l : List AV} {L : List Value} (h : denL ν (v :: l) = some L) : ∃ V R, den ν v = some V ∧ denL ν l = some R ∧ L = V :: R := by
 simp only [denL] at h
 cases hv : den ν v with
 | none => rw [hv] at h; cases h
 | some V =>
  rw [hv] at h
  cases hr : denL ν l with
  | none => rw [hr] at h; cases h
  | some R => rw [hr] at h; injection h with h; exact ⟨V, R, rfl, rfl, h.symm⟩
theorem denL_mk {v : AV} {l : List AV} {V : Value} {R : List Value} (h : den ν v = some V) (k : denL ν l = some R) : denL ν (v :: l) = some (V :: R) := by simp [denL, h, k]
theorem denL_len : ∀ {l : List AV} {L : List Value}, denL ν l = some L → L.length = l.length
 | [], _, h => by rw [denL_nil h]; rfl
 | v :: l, _, h => by
  obtain ⟨V, R, _, hr, rfl⟩ := denL_cons h
  simp [denL_len hr]
theorem denL_get : ∀ {l : List AV} {L : List Value}, denL ν l = some L → ∀ {i : Nat} {v : AV}, l[i]? = some v → ∃ V, L[i]? = some V ∧ den ν v = some V
 | [], _, h, i, v, hi => by simp at hi
 | u :: l, _, h, i, v, hi => by
  obtain ⟨V, R, hv, hr, rfl⟩ := denL_cons h
  cases i with
  | zero => simp at hi; subst hi; exact ⟨V, rfl, hv⟩
  | succ i => simpa using denL_get hr (i := i) (by simpa using hi)
theorem denL_append : ∀ {l m : List AV} {L M : List Value}, denL ν l = some L → denL ν m = some M → denL ν (l ++ m) = some (L ++ M)
 | [], m, L, M, h, k => by rw [denL_nil h]; exact k
 | v :: l, m, L, M, h, k => by
  obtain ⟨V, R, hv, hr, rfl⟩ := denL_cons h
  exact denL_mk hv (denL_append hr k)
theorem denL_take : ∀ {l : List AV} {L : List Value} (n : Nat), denL ν l = some L → denL ν (l.take n) = some (L.take n)
 | [], _, n, h => by rw [denL_nil h]; simp [denL]
 | v :: l, _, 0, h => by simp [denL]
 | v :: l, _, n + 1, h => by
  obtain ⟨V, R, hv, hr, rfl⟩ := denL_cons h
  exact denL_mk hv (denL_take n hr)
theorem denL_drop : ∀ {l : List AV} {L : List Value} (n : Nat), denL ν l = some L → denL ν (l.drop n) = some (L.drop n)
 | [], _, n, h => by rw [denL_nil h]; simp [denL]
 | v :: l, _, 0, h => h
 | v :: l, _, n + 1, h => by
  obtain ⟨V, R, hv, hr, rfl⟩ := denL_cons h
  exact denL_drop n hr
theorem denL_set : ∀ {l : List AV} {L : List Value} {v : AV} {V : Value} (n : Nat), denL ν l = some L → den ν v = some V → denL ν (l.set n v) = some (L.set n V)
 | [], _, _, _, n, h, _ => by rw [denL_nil h]; simp [denL]
 | u :: l, _, v, V, 0, h, k => by
  obtain ⟨U, R, hv, hr, rfl⟩ := denL_cons h
  exact denL_mk k hr
 | u :: l, _, v, V, n + 1, h, k => by
  obtain ⟨U, R, hv, hr, rfl⟩ := denL_cons h
  exact denL_mk hv (denL_set n hr k)
theorem denL_over : ∀ {vs : List AV} {l : List AV} {L Vs : List Value} (off : Nat), denL ν l = some L → denL ν vs = some Vs → denL ν (overL l off vs) = some (overlay L off Vs)
 | [], l, L, Vs, off, h, k => by rw [denL_nil k]; exact h
 | v :: vs, l, L, _, off, h, k => by
  obtain ⟨V, R, hv, hr, rfl⟩ := denL_cons k
  exact denL_over (off + 1) (denL_set off h hv) hr
theorem cutL_spec {l r : List AV} {off n : Nat} (h : cutL l off n = some r) : r = (l.drop off).take n ∧ r.length = n := by
 unfold cutL at h
 simp only at h
 split at h
 ·rename_i he
  injection h with h
  subst h
  exact ⟨rfl, Nat.eq_of_beq_eq_true he⟩
 ·cases h
theorem denL_cut {l r : List AV} {L : List Value} {off n : Nat} (hl : denL ν l = some L) (h : cutL l off n = some r) : denL ν r = some ((L.drop off).take n) ∧ ((L.drop off).take n).length = n := by
 obtain ⟨rfl, hn⟩ := cutL_spec h
 have h1 := denL_take n (denL_drop off hl)
 exact ⟨h1, by rw [denL_len h1]; exact hn⟩
theorem one_den {v : AV} {V : Value} (h : oneA v = true) (hv : den ν v = some V) : V.oneCell' = true ∧ plainCell V = true ∧ V.cells = #[V] := by
 cases v
 case agg => cases h
 case tup => cases h
 case ext i =>
  simp only [den] at hv
  split at hv
  ·rename_i v _
   split at hv
   ·rename_i ho
    injection hv with hv
    subst hv
    cases v <;> first | exact ⟨rfl, rfl, rfl⟩ | (simp [Value.oneCell'] at ho)
   ·cases hv
  ·cases hv
 case deep e t =>
  simp only [den] at hv
  split at hv
  ·rename_i e' v xs hx
   split at hv
   ·rename_i ho
    have ho := ho.2
    injection hv with hv
    subst hv
    cases v <;> first | exact ⟨rfl, rfl, rfl⟩ | (simp [Value.oneCell'] at ho)
   ·cases hv
  ·cases hv
 all_goals
  simp only [den] at hv
  repeat' split at hv
 all_goals first | (cases hv; done) | skip
 all_goals
  injection hv with hv
  subst hv
 all_goals exact ⟨rfl, rfl, rfl⟩
theorem denL_one : ∀ {l : List AV} {L : List Value}, l.all oneA = true → denL ν l = some L → (∀ u ∈ L, u.oneCell' = true) ∧ L.all plainCell = true
 | [], _, _, h => by rw [denL_nil h]; simp
 | v :: l, _, ha, h => by
  obtain ⟨V, R, hv, hr, rfl⟩ := denL_cons h
  simp only [List.all_cons, Bool.and_eq_true] at ha
  obtain ⟨h1, h2⟩ := denL_one ha.2 hr
  obtain ⟨h3, h4, _⟩ := one_den ha.1 hv
  exact ⟨fun u hu => by rcases List.mem_cons.1 hu with rfl | hu; exact h3; exact h1 u hu, by simp [h4, h2]⟩
theorem cells_den {v : AV} {V : Value} (hv : den ν v = some V) (ha : (cellsA v).all oneA = true) : denL ν (cellsA v) = some V.cells.toList := by
 cases v
 case agg l =>
  simp only [den] at hv
  split at hv
  ·rename_i L hL
   injection hv with hv
   subst hv
   simpa [cellsA, Value.cells] using hL
  ·cases hv
 all_goals
  simp only [cellsA, List.all_cons, List.all_nil, Bool.and_true] at ha
  rw [show cellsA _ = [_] from rfl, (one_den ha hv).2.2]
  simp [denL, hv]
theorem agg_den {l : List AV} {V : Value} (hv : den ν (.agg l) = some V) : ∃ L, denL ν l = some L ∧ V = .agg L.toArray := by
 simp only [den] at hv
 split at hv
 ·rename_i L hL
  injection hv with hv
  exact ⟨L, hL, hv.symm⟩
 ·cases hv
theorem tup_den {l : List AV} {V : Value} (hv : den ν (.tup l) = some V) : ∃ L, denL ν l = some L ∧ V = .tuple L.toArray := by
 simp only [den] at hv
 split at hv
 ·rename_i L hL
  injection hv with hv
  exact ⟨L, hL, hv.symm⟩
 ·cases hv
theorem sym_den {k : IntKind} {t : Tm} {V : Value} (hv : den ν (.sym k t) = some V) : ∃ n, denT ν t = some (.n n) ∧ V = .int k n := by
 simp only [den] at hv
 split at hv
 ·rename_i n hn
  injection hv with hv
  exact ⟨n, hn, hv.symm⟩
 ·cases hv
theorem symB_den {t : Tm} {V : Value} (hv : den ν (.symB t) = some V) : ∃ n, denT ν t = some (.n n) ∧ V = .bool (decide (n ≠ 0)) := by
 simp only [den] at hv
 split at hv
 ·rename_i n hn
  injection hv with hv
  exact ⟨n, hn, hv.symm⟩
 ·cases hv
theorem ptr_den {i off : Nat} {V : Value} (hv : den ν (.ptr i off) = some V) : ∃ g, ν i = some g ∧ V = .pointer (some ⟨g, off, none⟩) := by
 simp only [den] at hv
 split at hv
 ·rename_i g hg
  injection hv with hv
  exact ⟨g, hg, hv.symm⟩
 ·cases hv
theorem map_den {i : Nat} {V : Value} (hv : den ν (.map i) = some V) : ∃ g, ν i = some g ∧ V = .map (some g) := by
 simp only [den] at hv
 split at hv
 ·rename_i g hg
  injection hv with hv
  exact ⟨g, hg, hv.symm⟩
 ·cases hv
theorem slice_den {i off len : Nat} {c : Cap} {V : Value} (hv : den ν (.slice i off len c) = some V) : ∃ g n, ν i = some g ∧ capOf ν c = some n ∧ len ≤ n ∧ V = .slice (some ⟨g, off, none⟩) len n := by
 simp only [den] at hv
 split at hv
 ·rename_i g n hg hn
  split at hv
  ·injection hv with hv
   exact ⟨g, n, hg, hn, ‹_›, hv.symm⟩
  ·cases hv
 ·cases hv
theorem func_den {f : AFn} {a b : List AV} {V : Value} (hv : den ν (.func f a b) = some V) : ∃ fn A B, fnOf ν f = some fn ∧ denL ν a = some A ∧ denL ν b = some B ∧ V = .func fn A.toArray B.toArray := by
 simp only [den] at hv
 split at hv
 ·rename_i fn A B hf hA hB
  injection hv with hv
  exact ⟨fn, A, B, hf, hA, hB, hv.symm⟩
 ·cases hv
theorem ofC_den {v : Value} {a : AV} (h : ofC v = some a) : den ν a = some v := by
 unfold ofC at h
 split at h <;> first
  | (injection h with h; subst h; simp [den, denL, fnOf]; done)
  | (cases h; done)
  | (rename_i s; injection h with h; subst h; cases s; simp [den])
theorem mapO_ofC : ∀ {l : List Value} {m : List AV}, mapO ofC l = some m → denL ν m = some l
 | [], m, h => by simp only [mapO, Option.some.injEq] at h; subst h; rfl
 | v :: l, m, h => by
  simp only [mapO] at h
  split at h
  ·cases h
  ·rename_i y hy
   split at h
   ·cases h
   ·rename_i r hr
    injection h with h
    subst h
    exact denL_mk (ofC_den hy) (mapO_ofC hr)
theorem ofV_den {v : Value} {a : AV} (h : ofV v = some a) : den ν a = some v := by
 unfold ofV at h
 split at h
 ·rename_i cs
  rw [Option.map_eq_some_iff] at h
  obtain ⟨m, hm, rfl⟩ := h
  simp [den, mapO_ofC hm]
 ·rename_i cs
  rw [Option.map_eq_some_iff] at h
  obtain ⟨m, hm, rfl⟩ := h
  simp [den, mapO_ofC hm]
 ·exact ofC_den h
end
end Go.Proofs.YtcjbpaiomcfgnaaGreatDoor
namespace Go.Proofs.YtcjbpaiomcfgnaaGreatDoor
open Go.RowKit
structure Keep (L : List Nat) (w w' : World) : Prop where
 os : w'.os = w.os
 tape : w'.tape = w.tape
 output : w'.output = w.output
 size : w.heap.size ≤ w'.heap.size
 block : ∀ k, k < w.heap.size → k ∉ L → w'.heap[k]? = w.heap[k]?
theorem Keep.refl (L : List Nat) (w : World) : Keep L w w := ⟨rfl, rfl, rfl, Nat.le_refl _, fun _ _ _ => rfl⟩
theorem Keep.trans {L : List Nat} {a b c : World} (h : Keep L a b) (k : Keep L b c) : Keep L a c :=
 ⟨k.os.trans h.os, k.tape.trans h.tape, k.output.trans h.output, Nat.le_trans h.size k.size, fun i hi hn => (k.block i (Nat.lt_of_lt_of_le hi h.size) hn).trans (h.block i hi hn)⟩
theorem Keep.mono {L L' : List Nat} {a b : World} (h : Keep L a b) (hL : ∀ g ∈ L, g ∈ L' ∨ a.heap.size ≤ g) : Keep L' a b :=
 ⟨h.os, h.tape, h.output, h.size, fun i hi hn => h.block i hi fun hm => by
  rcases hL i hm with h1 | h1
  ·exact hn h1
  ·omega⟩
theorem Keep.drew (L : List Nat) (w : World) : Keep L w w.drew := ⟨rfl, rfl, rfl, Nat.le_refl _, fun _ _ _ => rfl⟩
theorem Keep.alloc (L : List Nat) (w : World) (o : Obj) : Keep L w (w.alloc o) := ⟨rfl, rfl, rfl, by simp, fun k hk _ => Below.heap_alloc _ _ _ hk⟩
theorem Keep.below {w w' : World} (h : Keep [] w w') : Below w.heap.size w w' := ⟨h.os, h.tape, h.output, h.size, fun k hk => h.block k hk (by simp)⟩
theorem Keep.of_below {L : List Nat} {w w' : World} (h : Below w.heap.size w w') : Keep L w w' := ⟨h.os, h.tape, h.output, h.size, fun k hk _ => h.block k hk⟩
structure Fact where
 α : Type
 R : Rp α
 cs : List Value
 x : α
def Fact.holds (f : Fact) (w : World) (U : Nat → Prop) : Prop := f.R.at_ w U f.cs f.x
def gs (H : List Bk) : List Nat := H.map (·.g)
def Rng (w : World) (U : Nat → Prop) (q : Addr) (cs : List Value) : Prop := U q.block ∧ ∀ j u, cs[j]? = some u → w.cell? (q.add j) = some u
structure Ob where
 bs : List Nat
 ok : World → (Nat → Prop) → Prop
 keep : ∀ {w w' : World} {U U' : Nat → Prop}, (∀ b ∈ bs, w'.heap[b]? = w.heap[b]?) → Holds U w w' → (∀ b, U b → b < w.heap.size → U' b) → ok w U → ok w' U'
structure Fc where
 E : List (Addr × List Value)
 F : List Fact
 M : List Nat := []
 R : List Ob := []
 X : List Nat := []
 Y : List Nat := []
 K : List Nat → World → Prop := fun _ _ => True
def mark (D : Nat) : Deferred := { target := .collected D, args := #[] }
def obs (R : List Ob) : List Nat := R.flatMap (·.bs)
def Fc.ex (F : Fc) : List Nat := obs F.R ++ (F.X ++ F.Y)
def priv (H : List Bk) (F : Fc) : List Nat := gs H ++ (obs F.R ++ (F.M ++ F.Y))
def Abide (K : List Nat → World → Prop) : Prop := ∀ Z Z' w w', (∀ g ∈ Z', g < w'.heap.size ∧ (g ∈ Z ∨ w.heap.size ≤ g)) → Keep Z w w' → K Z w → K Z' w'
def dm (D : Nat → Prop) (w0 : World) (H : List Bk) (F : Fc) (w : World) : Nat → Prop := dom D w0.heap.size (gs H ++ F.ex) w
structure Inv (D : Nat → Prop) (w0 : World) (L0 : List Nat) (H : List Bk) (F : Fc) (w : World) : Prop where
 has : ∀ b ∈ H, Blk w b.g b.t b.cs.toArray
 nodup : (gs H ++ obs F.R).Nodup ∧ ∀ g ∈ F.X ++ F.Y, g ∉ gs H ++ obs F.R
 keep : Keep L0 w0 w
 own : ∀ g ∈ gs H ++ F.ex, w0.heap.size ≤ g ∨ g ∈ L0
 lt : ∀ g ∈ gs H ++ F.ex, g < w.heap.size
 facts : ∀ f ∈ F.F, f.holds w (dm D w0 H F w)
 rngs : ∀ e ∈ F.E, Rng w (dm D w0 H F w) e.1 e.2
 marks : F.M.Nodup ∧ ∀ k ∈ F.M, w0.heap.size ≤ k ∧ w.heap[k]? = some (.deferred (some [])) ∧ k ∉ gs H ++ F.ex
 things : ∀ o ∈ F.R, o.ok w (dm D w0 H F w)
 known : F.K (priv H F) w ∧ Abide F.K
section
variable {D : Nat → Prop} {w0 w w' : World} {L0 : List Nat} {H H' : List Bk} {F : Fc}
theorem Inv.ctx (h : Inv D w0 L0 H F w) {E : List (Addr × List Value)} {Fs : List Fact} (h1 : ∀ f ∈ Fs, f.holds w (dm D w0 H F w)) (h2 : ∀ e ∈ E, Rng w (dm D w0 H F w) e.1 e.2) : Inv D w0 L0 H { F with E := E, F := Fs } w :=
 ⟨h.has, h.nodup, h.keep, h.own, h.lt, h1, h2, h.marks, h.things, h.known⟩
theorem Inv.add (h : Inv D w0 L0 H F w) {f : Fact} (hf : f.holds w (dm D w0 H F w)) : Inv D w0 L0 H { F with F := f :: F.F } w :=
 h.ctx (fun k hk => by
  rcases List.mem_cons.1 hk with rfl | hk
  ·exact hf
  ·exact h.facts k hk) h.rngs
end
def look (T : List (Nat × Value)) (i : Nat) : Option Value :=
 match T with
 | [] => none
 | p :: T => match Nat.beq p.1 i with
  | true => some p.2
  | false => look T i
structure Knows (n : Nat) (M : List Nat) (T : List (Nat × Value)) (a : Act) : Prop where
 size : a.tmps.size = n
 defers : a.defers = M.map mark
 slots : ∀ i v, look T i = some v → a.tmps[i]? = some v
def subT : List (Nat × Value) → List (Nat × Value) → Prop := fun T T' => ∀ i v, look T' i = some v → look T i = some v
theorem Knows.sub {n : Nat} {M : List Nat} {T T' : List (Nat × Value)} {a : Act} (h : Knows n M T a) (hs : subT T T') : Knows n M T' a := ⟨h.size, h.defers, fun i v hv => h.slots i v (hs i v hv)⟩
section
variable {r' : Option Nat} {P : Program} {ops : Array Oper} {Q : Exit → Act → World → Prop} {D : Nat → Prop} {w0 w : World} {L0 : List Nat} {H H' : List Bk} {F : Fc} {N : Nat} {M : List Nat} {T T' : List (Nat × Value)}
end
end Go.Proofs.YtcjbpaiomcfgnaaGreatDoor
namespace Go.Proofs.YtcjbpaiomcfgnaaGreatDoor
open Go Go.RowKit
structure FRel (ν : Nm) (T : Tr AV) (N : Nat) (tmps : Array Value) : Prop where
 size : tmps.size = N
 slots : ∀ i v, T.get i = some v → ∃ V, den ν v = some V ∧ tmps[i]? = some V
theorem FRel.mono {ν ν' : Nm} {T : Tr AV} {N : Nat} {tmps : Array Value} (h : FRel ν T N tmps) (hν : Nm.le ν ν') : FRel ν' T N tmps :=
 ⟨h.size, fun i v hv => by
  obtain ⟨V, h1, h2⟩ := h.slots i v hv
  exact ⟨V, den_mono hν v V h1, h2⟩⟩
theorem FRel.put {ν : Nm} {T : Tr AV} {N : Nat} {tmps : Array Value} (h : FRel ν T N tmps) {d : Nat} {v : AV} {V : Value} (hd : d < N) (hv : den ν v = some V) : FRel ν (T.put d (some v)) N (tmps.setIfInBounds d V) :=
 ⟨by simp [h.size], fun i u hu => by
  rw [Tr.get_put] at hu
  split at hu
  ·rename_i e
   subst e
   injection hu with hu
   subst hu
   exact ⟨V, hv, by simp [h.size, hd]⟩
  ·rename_i hne
   obtain ⟨U, h1, h2⟩ := h.slots i u hu
   exact ⟨U, h1, by rw [Array.getElem?_setIfInBounds_ne (Ne.symm hne)]; exact h2⟩⟩
theorem FRel.putD {ν : Nm} {T : Tr AV} {N : Nat} {a : Act} (h : FRel ν T N a.tmps) {d : Option Nat} {v : AV} {V : Value} (hd : okD N d = true) (hv : den ν v = some V) : FRel ν (putD T d v) N (a.put d V).tmps := by
 cases d with
 | none => exact h
 | some d => exact h.put (Nat.le_of_ble_eq_true hd) hv
theorem FRel.evA {ν : Nm} {T : Tr AV} {N : Nat} {a : Act} (h : FRel ν T N a.tmps) {x : Operand} {v : AV} (hx : evA T x = some v) : den ν v = some (a.eval x) := by
 cases x with
 | tmp t =>
  obtain ⟨V, h1, h2⟩ := h.slots t v hx
  rw [h1]
  simp [Act.eval, h2]
 | const c => exact ofV_den hx
 | func f => simp only [YtcjbpaiomcfgnaaGreatDoor.evA, Option.some.injEq] at hx; subst hx; rfl
 | global g => simp only [YtcjbpaiomcfgnaaGreatDoor.evA, Option.some.injEq] at hx; subst hx; rfl
def ERel (ν : Nm) (e : AV × AV × Nat) (m : MapEntry) : Prop := den ν e.1 = some m.key ∧ den ν e.2.1 = some m.val ∧ e.2.2 = m.born
def optN (ν : Nm) : Option Nat → Option Nat → Prop
 | none, r => r = none
 | some i, r => ∃ g, ν i = some g ∧ r = some g
inductive DeepC (P : Program) (z : Nat → Option Obj) : TypeId → Value → Dat → Prop where
 | bool {t : TypeId} {b : Bool} : P.underlying t = some .bool → DeepC P z t (.bool b) (.n (if b then 1 else 0))
 | int {t : TypeId} {k : IntKind} {n : Int} : P.underlying t = some (.int k) → k.wrap n = n → DeepC P z t (.int k n) (.n n)
 | str {t : TypeId} {l : List UInt8} : P.underlying t = some .string → DeepC P z t (.string ⟨l.toArray⟩) (.s l)
 | nil {t e : TypeId} : P.underlying t = some (.slice e) → DeepC P z t (.slice none 0 0) (.r e (.slice none 0 0) [])
 | empty {t e : TypeId} {a : Addr} {cap : Nat} : P.underlying t = some (.slice e) → DeepC P z t (.slice (some a) 0 cap) (.r e (.slice (some a) 0 cap) [])
 | row {t e tb : TypeId} {g off cap size : Nat} {arr : Array Value} {fz : Nat × Nat} {ts : List TypeId} {xs : List Dat} : P.underlying t = some (.slice e) → flatTs P 8 e = some ts → (P.info? e).map (·.size) = some size → ts.length = size →
   z g = some (.cells arr tb fz) → off + xs.length * size ≤ arr.size → xs.length ≤ cap →
   (∀ (i : Nat) (d : Dat), xs[i]? = some d → ∀ j, (cellD d j).isSome ↔ j < size) →
   (∀ (i j : Nat) (d c : Dat) (tc : TypeId) (v : Value), xs[i]? = some d → cellD d j = some c → ts[j]? = some tc → arr[off + i * size + j]? = some v → DeepC P z tc v c) →
   DeepC P z t (.slice (some ⟨g, off, none⟩) xs.length cap) (.r e (.slice (some ⟨g, off, none⟩) xs.length cap) xs)
theorem DeepC.mono {P : Program} {z z' : Nat → Option Obj} (hz : ∀ g o, z g = some o → z' g = some o) {t : TypeId} {v : Value} {d : Dat} (h : DeepC P z t v d) : DeepC P z' t v d := by
 induction h with
 | bool h => exact .bool h
 | int h h2 => exact .int h h2
 | str h => exact .str h
 | nil h => exact .nil h
 | empty h => exact .empty h
 | row h1 h2 h3 h4 h5 h6 h7 h8 _ ih => exact .row h1 h2 h3 h4 (hz _ _ h5) h6 h7 h8 ih
def RowC (P : Program) (z : Nat → Option Obj) (e : TypeId) (v : Value) (xs : List Dat) : Prop :=
 ∃ (g off cap size : Nat) (arr : Array Value) (fz : Nat × Nat) (ts : List TypeId) (tb : TypeId), v = .slice (some ⟨g, off, none⟩) xs.length cap ∧ flatTs P 8 e = some ts ∧ (P.info? e).map (·.size) = some size ∧ ts.length = size ∧
   z g = some (.cells arr tb fz) ∧ off + xs.length * size ≤ arr.size ∧ xs.length ≤ cap ∧
   (∀ (i : Nat) (d : Dat), xs[i]? = some d → ∀ j, (cellD d j).isSome ↔ j < size) ∧
   (∀ (i j : Nat) (d c : Dat) (tc : TypeId) (v : Value), xs[i]? = some d → cellD d j = some c → ts[j]? = some tc → arr[off + i * size + j]? = some v → DeepC P z tc v c)
theorem RowC.mono {P : Program} {z z' : Nat → Option Obj} (hz : ∀ g o, z g = some o → z' g = some o) {e : TypeId} {v : Value} {xs : List Dat} (h : RowC P z e v xs) : RowC P z' e v xs := by
 obtain ⟨g, off, cap, size, arr, fz, ts, tb, h1, h2, h3, h4, h5, h6, h7, h8, h9⟩ := h
 exact ⟨g, off, cap, size, arr, fz, ts, tb, h1, h2, h3, h4, hz _ _ h5, h6, h7, h8, fun i j d c tc v a b e f => (h9 i j d c tc v a b e f).mono hz⟩
theorem RowC.deep {P : Program} {z : Nat → Option Obj} {t e : TypeId} {v : Value} {xs : List Dat} (h : RowC P z e v xs) (ht : P.underlying t = some (.slice e)) : DeepC P z t v (.r e v xs) := by
 obtain ⟨g, off, cap, size, arr, fz, ts, tb, rfl, h2, h3, h4, h5, h6, h7, h8, h9⟩ := h
 exact .row ht h2 h3 h4 h5 h6 h7 h8 h9
def DatOk (P : Program) (z : Nat → Option Obj) (d : Dat) : Prop :=
 match d with
 | .r e v xs => ((v = .slice none 0 0 ∨ ∃ a cap, v = .slice (some a) 0 cap) ∧ xs = []) ∨ RowC P z e v xs
 | _ => True
theorem DatOk.mono {P : Program} {z z' : Nat → Option Obj} (hz : ∀ g o, z g = some o → z' g = some o) {d : Dat} (h : DatOk P z d) : DatOk P z' d := by
 cases d <;> simp only [DatOk] at h ⊢
 rcases h with h | h
 ·exact .inl h
 ·exact .inr (h.mono hz)
theorem DeepC.ok {P : Program} {z : Nat → Option Obj} {t : TypeId} {v : Value} {d : Dat} (h : DeepC P z t v d) : DatOk P z d := by
 cases h with
 | bool h => trivial
 | int h h2 => trivial
 | str h => trivial
 | nil h => exact .inl ⟨.inl rfl, rfl⟩
 | empty h => exact .inl ⟨.inr ⟨_, _, rfl⟩, rfl⟩
 | row h1 h2 h3 h4 h5 h6 h7 h8 h9 => exact .inr ⟨_, _, _, _, _, _, _, _, rfl, h2, h3, h4, h5, h6, h7, h8, h9⟩
def RowIs (P : Program) (z : Nat → Option Obj) (e : TypeId) (d : Dat) (L : List Value) : Prop :=
 match d with
 | .s l => P.underlying e = some (.int .u8) ∧ (P.info? e).map (·.size) = some 1 ∧ L = l.map fun b => .int .u8 b.toNat
 | .l xs => P.underlying e ≠ some (.int .u8) ∧ ∃ ts size, flatTs P 8 e = some ts ∧ (P.info? e).map (·.size) = some size ∧ ts.length = size ∧ L.length = xs.length * size ∧
   (∀ (i : Nat) (d : Dat), xs[i]? = some d → ∀ j, (cellD d j).isSome ↔ j < size) ∧
   ∀ (i j : Nat) (d c : Dat) (tc : TypeId) (v : Value), xs[i]? = some d → cellD d j = some c → ts[j]? = some tc → L[i * size + j]? = some v → DeepC P z tc v c
 | _ => False
theorem RowIs.mono {P : Program} {z z' : Nat → Option Obj} (hz : ∀ g o, z g = some o → z' g = some o) {e : TypeId} {d : Dat} {L : List Value} (h : RowIs P z e d L) : RowIs P z' e d L := by
 cases d <;> simp only [RowIs] at h ⊢ <;> try exact h
 obtain ⟨h0, ts, size, h1, h2, h3, h4, h5, h6⟩ := h
 exact ⟨h0, ts, size, h1, h2, h3, h4, h5, fun i j d c tc v a b c' d' => (h6 i j d c tc v a b c' d').mono hz⟩
def ORel (P : Program) (ν : Nm) : AObj → Obj → Prop
  | .cells l t c, .cells arr t' fz => t' = t ∧ NoFz fz arr.size ∧ ∃ L R, denL ν l = some L ∧ arr.toList = L ++ R ∧
      (match c with
       | none => R = []
       | some c => ∃ cap i, ν c = some cap ∧ P.info? t = some i ∧ arr.size = cap * i.size)
  | .map es clock, .map arr clock' => clock' = clock ∧ All2 (ERel ν) es arr.toList
  | .iter m since seen stepped, .mapIter m' since' seen' stepped' => optN ν m m' ∧ since' = since ∧ seen'.toList = seen ∧ stepped' = stepped
  | .loop st pend T N ps assign body d, .loop r => r.state = st ∧ r.pending = pend ∧ FRel ν T N r.tmps ∧ r.params.toList = ps ∧ r.assign = assign ∧ r.body = body ∧ ν d = some r.defers
  | .defr, .deferred d => d = some []
  | .row t e c, .cells arr t' fz => t' = e ∧ NoFz fz arr.size ∧ ∃ d L R, denT ν t = some d ∧ RowIs P ν.z e d L ∧ arr.toList = L ++ R ∧
      (match c with
       | none => R = []
       | some c => ∃ cap i, ν c = some cap ∧ P.info? e = some i ∧ arr.size = cap * i.size)
  | _, _ => False
theorem ORel.mono {P : Program} {ν ν' : Nm} (hν : Nm.le ν ν') {o : AObj} {obj : Obj} (h : ORel P ν o obj) : ORel P ν' o obj := by
 cases o <;> cases obj <;> simp only [ORel] at h ⊢ <;> try exact h
 case cells.cells l t c arr t' fz =>
  obtain ⟨h1, h2, L, R, h3, h4, h5⟩ := h
  refine ⟨h1, h2, L, R, denL_mono hν l L h3, h4, ?_⟩
  cases c with
  | none => exact h5
  | some c =>
   obtain ⟨cap, i, h6, h7, h8⟩ := h5
   exact ⟨cap, i, hν _ _ h6, h7, h8⟩
 case row.cells t e c arr t' fz =>
  obtain ⟨h1, h2, d, L, R, h3, h4, h5, h6⟩ := h
  refine ⟨h1, h2, d, L, R, denT_mono hν t d h3, h4.mono hν.z, h5, ?_⟩
  cases c with
  | none => exact h6
  | some c =>
   obtain ⟨cap, i, h7, h8, h9⟩ := h6
   exact ⟨cap, i, hν _ _ h7, h8, h9⟩
 case map.map es clock arr clock' => exact ⟨h.1, All2.imp (fun e m hm => ⟨den_mono hν _ _ hm.1, den_mono hν _ _ hm.2.1, hm.2.2⟩) h.2⟩
 case iter.mapIter m a b c m' a' b' c' =>
  refine ⟨?_, h.2⟩
  cases m with
  | none => exact h.1
  | some i =>
   obtain ⟨g, h1, h2⟩ := h.1
   exact ⟨g, hν _ _ h1, h2⟩
 case loop.loop => exact ⟨h.1, h.2.1, h.2.2.1.mono hν, h.2.2.2.1, h.2.2.2.2.1, h.2.2.2.2.2.1, hν _ _ h.2.2.2.2.2.2⟩
def GlobOk (ν : Nm) (gl : List (Nat × List AV)) (w : World) : Prop := ∀ g l, (g, l) ∈ gl → ∀ i v, l[i]? = some v → ∃ V, den ν v = some V ∧ w.cell? ⟨g, i, none⟩ = some V
def IsSo (ν : Nm) (t : Tm) (b : Bool) : Prop := ∃ n, denT ν t = some (.n n) ∧ decide (n ≠ 0) = b
structure CtxOk (ν : Nm) (x : Ctx) (w0 : World) : Prop where
 gl : GlobOk ν x.gl w0
 pc : ∀ t b, (t, b) ∈ x.pc → IsSo ν t b
theorem CtxOk.mono {ν ν' : Nm} {x : Ctx} {w0 : World} (h : CtxOk ν x w0) (hν : Nm.le ν ν') : CtxOk ν' x w0 :=
 ⟨fun g l hg i v hv => by
  obtain ⟨V, h1, h2⟩ := h.gl g l hg i v hv
  exact ⟨V, den_mono hν v V h1, h2⟩, fun t b ht => by
  obtain ⟨n, h1, h2⟩ := h.pc t b ht
  exact ⟨n, denT_mono hν t _ h1, h2⟩⟩
structure Anch where
 h : Tr AObj
 ν : Nm
 w : World
structure WRel (P : Program) (w0 : World) (A : Anch) (ν : Nm) (s : St) (w : World) : Prop where
 keep : Keep [] w0 w
 top : ∀ i, s.n ≤ i → ν i = none
 objs : ∀ i o, s.h.get i = some o → ∃ g obj, ν i = some g ∧ w0.heap.size ≤ g ∧ w.heap[g]? = some obj ∧ ORel P ν o obj
 inj : ∀ i j o o', s.h.get i = some o → s.h.get j = some o' → ν i = ν j → i = j
 ext : Nm.le A.ν ν
 anc : ∀ i o, A.h.get i = some o → ∃ g, A.ν i = some g
 same : ∀ i o, A.h.get i = some o → i ∉ s.log → (∃ o, s.h.get i = some o) ∧ ∀ g, A.ν i = some g → w.heap[g]? = A.w.heap[g]?
 far : ∀ g, g < A.w.heap.size → (∀ i o, A.h.get i = some o → A.ν i ≠ some g) → w.heap[g]? = A.w.heap[g]?
 big : A.w.heap.size ≤ w.heap.size
 own : ∀ i o, s.h.get i = some o → ∀ g, ν i = some g → A.w.heap.size ≤ g ∨ ∃ j o, A.h.get j = some o ∧ A.ν j = some g
 ctx : CtxOk ν s.x w0
 frz : ∀ g o, ν.z g = some o → w.heap[g]? = some o ∧ ∀ i ob, s.h.get i = some ob → ν i ≠ some g
 zown : ∀ g o, ν.z g = some o → A.ν.z g = some o ∨ A.w.heap.size ≤ g ∨ ∃ j o, A.h.get j = some o ∧ A.ν j = some g
 dat : ∀ i d, ν.x i = some d → DatOk P ν.z d
 topx : ∀ i, s.n ≤ i → ν.x (atoms0 + i) = none
structure Upd (w : World) (g : Nat) (obj : Obj) (w' : World) : Prop where
 os : w'.os = w.os
 tape : w'.tape = w.tape
 output : w'.output = w.output
 size : w'.heap.size = w.heap.size
 here : w'.heap[g]? = some obj
 rest : ∀ k, k ≠ g → w'.heap[k]? = w.heap[k]?
def Nm.set (ν : Nm) (k v : Nat) : Nm := ⟨fun i => if i = k then some v else ν i, ν.x, ν.u, ν.z⟩
theorem Nm.le_set {ν : Nm} {k : Nat} (h : ν k = none) (v : Nat) : Nm.le ν (ν.set k v) := ⟨fun i g hi => by
 unfold Nm.set
 simp only
 split
 ·rename_i e; subst e; rw [h] at hi; cases hi
 ·exact hi, fun _ _ h => h, rfl, fun _ _ => rfl, fun _ _ h => h⟩
theorem Nm.set_same (ν : Nm) (k v : Nat) : (ν.set k v) k = some v := by simp [Nm.set]
section
variable {P : Program} {w0 w w' : World} {A : Anch} {ν : Nm} {s : St}
theorem WRel.lt (h : WRel P w0 A ν s w) {i g : Nat} {o : AObj} (hi : s.h.get i = some o) (hg : ν i = some g) : g < w.heap.size := by
 obtain ⟨g', obj, h1, _, h3, _⟩ := h.objs i o hi
 rw [hg] at h1
 injection h1 with h1
 subst h1
 exact (Array.getElem?_eq_some_iff.1 h3).1
theorem WRel.at_ (h : WRel P w0 A ν s w) {i g : Nat} {o : AObj} (hi : s.h.get i = some o) (hg : ν i = some g) : ∃ obj, w.heap[g]? = some obj ∧ ORel P ν o obj := by
 obtain ⟨g', obj, h1, _, h3, h4⟩ := h.objs i o hi
 rw [hg] at h1
 injection h1 with h1
 subst h1
 exact ⟨obj, h3, h4⟩
theorem WRel.named (h : WRel P w0 A ν s w) {k : Nat} (hk : ν k = none) (o : AObj) : s.h.get k ≠ some o := fun e => by
 obtain ⟨g, _, h1, _⟩ := h.objs k o e
 rw [hk] at h1
 cases h1
theorem WRel.drew (h : WRel P w0 A ν s w) : WRel P w0 A ν s w.drew := ⟨h.keep.trans (Keep.drew _ _), h.top, h.objs, h.inj, h.ext, h.anc, h.same, h.far, h.big, h.own, h.ctx, h.frz, h.zown, h.dat, h.topx⟩
theorem WRel.write (h : WRel P w0 A ν s w) {i g : Nat} {o0 o : AObj} {obj : Obj} (hi : s.h.get i = some o0) (hg : ν i = some g) (hO : ORel P ν o obj) (hw : Upd w g obj w') {lg : List Nat} (hl : ∀ x ∈ s.log, x ∈ lg)
  (hil : ∀ o, A.h.get i = some o → i ∈ lg) : WRel P w0 A ν ⟨s.h.put i (some o), s.n, lg, s.x⟩ w' := by
 have hgs : w0.heap.size ≤ g := by
  obtain ⟨g', obj, h1, h2, _⟩ := h.objs i o0 hi
  rw [hg] at h1
  injection h1 with h1
  subst h1
  exact h2
 have old : ∀ j o', (s.h.put i (some o)).get j = some o' → j ≠ i → s.h.get j = some o' := fun j o' hj hne => by
  rw [Tr.get_put, if_neg hne] at hj
  exact hj
 have alive : ∀ j o', (s.h.put i (some o)).get j = some o' → ∃ o'', s.h.get j = some o'' := fun j o' hj => by
  by_cases e : j = i
  ·subst e; exact ⟨_, hi⟩
  ·exact ⟨_, old j o' hj e⟩
 refine ⟨⟨hw.os.trans h.keep.os, hw.tape.trans h.keep.tape, hw.output.trans h.keep.output, by rw [hw.size]; exact h.keep.size, fun k hk hn => ?_⟩, h.top, fun j o' hj => ?_, fun j k o1 o2 hj hk e => ?_, h.ext, h.anc, fun j o' hj hn => ?_, fun k hk hn => ?_, by rw [hw.size]; exact h.big, fun j o' hj g' hg' => ?_, h.ctx, fun k ob hk => ⟨(hw.rest k fun e => (h.frz k ob hk).2 i o0 hi (by rw [hg, e])).trans (h.frz k ob hk).1, fun j o' hj => ?_⟩, h.zown, h.dat, h.topx⟩
 ·rw [hw.rest k (by omega)]
  exact h.keep.block k hk hn
 ·by_cases e : j = i
  ·subst e
   rw [Tr.get_put, if_pos rfl] at hj
   injection hj with hj
   subst hj
   exact ⟨g, obj, hg, hgs, hw.here, hO⟩
  ·have hj' := old j o' hj e
   obtain ⟨g', obj', h1, h2, h3, h4⟩ := h.objs j o' hj'
   refine ⟨g', obj', h1, h2, ?_, h4⟩
   rw [hw.rest g' fun e' => e (h.inj j i o' o0 hj' hi (by rw [h1, hg, e']))]
   exact h3
 ·obtain ⟨a, ha⟩ := alive j o1 hj
  obtain ⟨b, hb⟩ := alive k o2 hk
  exact h.inj j k a b ha hb e
 ·have hn' : j ∉ s.log := fun hm => hn (hl j hm)
  obtain ⟨⟨o2, h1⟩, h2⟩ := h.same j o' hj hn'
  have hne : j ≠ i := fun e => hn (by subst e; exact hil _ hj)
  refine ⟨⟨o2, by rw [Tr.get_put, if_neg hne]; exact h1⟩, fun g' hg' => ?_⟩
  rw [hw.rest g' fun e => hne (h.inj j i o2 o0 h1 hi (by rw [h.ext _ _ hg', hg, e]))]
  exact h2 g' hg'
 ·rw [hw.rest k ?_]
  ·exact h.far k hk hn
  ·rintro rfl
   rcases h.own i o0 hi k hg with h1 | ⟨j, o', h1, h2⟩
   ·omega
   ·exact hn j o' h1 h2
 ·obtain ⟨a, ha⟩ := alive j o' hj
  exact h.own j a ha g' hg'
 ·obtain ⟨a, ha⟩ := alive j o' hj
  exact (h.frz k ob hk).2 j a ha
theorem WRel.alloc (h : WRel P w0 A ν s w) {k n' : Nat} {o : AObj} {obj : Obj} (hk : ν k = none) (hn : s.n ≤ n') (hkn : k < n') (hO : ORel P (ν.set k w.heap.size) o obj) :
  WRel P w0 A (ν.set k w.heap.size) ⟨s.h.put k (some o), n', s.log, s.x⟩ (w.alloc obj) := by
 have hle := Nm.le_set hk w.heap.size
 have old : ∀ j o', (s.h.put k (some o)).get j = some o' → j ≠ k → s.h.get j = some o' := fun j o' hj hne => by
  rw [Tr.get_put, if_neg hne] at hj
  exact hj
 have hne : ∀ j o', s.h.get j = some o' → j ≠ k := fun j o' hj e => h.named hk o' (e ▸ hj)
 have νold : ∀ j, j ≠ k → (ν.set k w.heap.size) j = ν j := fun j hj => by simp [Nm.set, hj]
 have heapOld : ∀ g, g < w.heap.size → (w.alloc obj).heap[g]? = w.heap[g]? := fun g hg => Below.heap_alloc _ _ _ hg
 refine ⟨h.keep.trans (Keep.alloc _ _ _), fun i hi => ?_, fun j o' hj => ?_, fun i j o1 o2 hi hj e => ?_, h.ext.trans hle, h.anc, fun j o' hj hn' => ?_, fun g hg hf => ?_, by simp; have := h.big; omega, fun j o' hj g hg => ?_, h.ctx.mono hle, fun g ob hg => ?_, h.zown, h.dat, fun i hi => h.topx i (Nat.le_trans hn hi)⟩
 ·have : i ≠ k := by simp at hi; omega
  rw [νold i this]
  exact h.top i (Nat.le_trans hn hi)
 ·by_cases e : j = k
  ·subst e
   rw [Tr.get_put, if_pos rfl] at hj
   injection hj with hj
   subst hj
   exact ⟨w.heap.size, obj, Nm.set_same _ _ _, h.keep.size, World.alloc_heap_new _ _, hO⟩
  ·have hj' := old j o' hj e
   obtain ⟨g', obj', h1, h2, h3, h4⟩ := h.objs j o' hj'
   exact ⟨g', obj', hle _ _ h1, h2, (heapOld g' (h.lt hj' h1)).trans h3, h4.mono hle⟩
 ·by_cases ei : i = k <;> by_cases ej : j = k
  ·rw [ei, ej]
  ·exfalso
   have hj' := old j o2 hj ej
   obtain ⟨g', obj', h1, _⟩ := h.objs j o2 hj'
   have := h.lt hj' h1
   rw [νold j ej, h1, ei, Nm.set_same] at e
   injection e with e
   omega
  ·exfalso
   have hi' := old i o1 hi ei
   obtain ⟨g', obj', h1, _⟩ := h.objs i o1 hi'
   have := h.lt hi' h1
   rw [νold i ei, h1, ej, Nm.set_same] at e
   injection e with e
   omega
  ·rw [νold i ei, νold j ej] at e
   exact h.inj i j o1 o2 (old i o1 hi ei) (old j o2 hj ej) e
 ·obtain ⟨⟨o2, h1⟩, h2⟩ := h.same j o' hj hn'
  refine ⟨⟨o2, by rw [Tr.get_put, if_neg (hne j o2 h1)]; exact h1⟩, fun g hg => ?_⟩
  rw [heapOld g (h.lt h1 (h.ext _ _ hg))]
  exact h2 g hg
 ·rw [heapOld g (Nat.lt_of_lt_of_le hg h.big)]
  exact h.far g hg hf
 ·by_cases e : j = k
  ·subst e
   rw [Nm.set_same] at hg
   injection hg with hg
   subst hg
   exact .inl h.big
  ·rw [νold j e] at hg
   exact h.own j o' (old j o' hj e) g hg
 ·have hf := h.frz g ob hg
  have hlt : g < w.heap.size := (Array.getElem?_eq_some_iff.1 hf.1).1
  refine ⟨(heapOld g hlt).trans hf.1, fun j o' hj => ?_⟩
  by_cases e : j = k
  ·subst e
   rw [Nm.set_same]
   intro e
   injection e with e
   omega
  ·rw [νold j e]
   exact hf.2 j o' (old j o' hj e)
theorem WRel.name (h : WRel P w0 A ν s w) {k n' : Nat} (hk : ν k = none) (hn : s.n ≤ n') (hkn : k < n') (v : Nat) : WRel P w0 A (ν.set k v) ⟨s.h, n', s.log, s.x⟩ w := by
 have hle := Nm.le_set hk v
 have νold : ∀ j, j ≠ k → (ν.set k v) j = ν j := fun j hj => by simp [Nm.set, hj]
 have hne : ∀ j o', s.h.get j = some o' → j ≠ k := fun j o' hj e => h.named hk o' (e ▸ hj)
 refine ⟨h.keep, fun i hi => ?_, fun j o' hj => ?_, fun i j o1 o2 hi hj e => ?_, h.ext.trans hle, h.anc, h.same, h.far, h.big, fun j o' hj g hg => ?_, h.ctx.mono hle, fun g ob hg => ⟨(h.frz g ob hg).1, fun j o' hj => ?_⟩, h.zown, h.dat, fun i hi => h.topx i (Nat.le_trans hn hi)⟩
 ·simp only at hi
  rw [νold i (by omega)]
  exact h.top i (by omega)
 ·obtain ⟨g', obj', h1, h2, h3, h4⟩ := h.objs j o' hj
  exact ⟨g', obj', hle _ _ h1, h2, h3, h4.mono hle⟩
 ·rw [νold i (hne i o1 hi), νold j (hne j o2 hj)] at e
  exact h.inj i j o1 o2 hi hj e
 ·rw [νold j (hne j o' hj)] at hg
  exact h.own j o' hj g hg
 ·rw [νold j (hne j o' hj)]
  exact (h.frz g ob hg).2 j o' hj
theorem WRel.znew (h : WRel P w0 A ν s w) : ν.z w.heap.size = none := by
 cases hz : ν.z w.heap.size with
 | none => rfl
 | some ob => exact absurd (Array.getElem?_eq_some_iff.1 (h.frz _ ob hz).1).1 (Nat.lt_irrefl _)
theorem WRel.nofrz (h : WRel P w0 A ν s w) {i g : Nat} {o : AObj} (hi : s.h.get i = some o) (hg : ν i = some g) : ν.z g = none := by
 cases hz : ν.z g with
 | none => rfl
 | some ob => exact absurd hg ((h.frz g ob hz).2 i o hi)
theorem WRel.kill (h : WRel P w0 A ν s w) (i : Nat) : WRel P w0 A ν (killO s i) w := by
 have old : ∀ j o', (s.h.put i none).get j = some o' → j ≠ i ∧ s.h.get j = some o' := fun j o' hj => by
  rw [Tr.get_put] at hj
  split at hj
  ·cases hj
  ·exact ⟨‹_›, hj⟩
 refine ⟨h.keep, h.top, fun j o' hj => h.objs j o' (old j o' hj).2, fun a b o1 o2 ha hb => h.inj a b o1 o2 (old a o1 ha).2 (old b o2 hb).2, h.ext, h.anc, fun j o' hj hn => ?_, h.far, h.big, fun j o' hj => h.own j o' (old j o' hj).2, h.ctx, fun g ob hg => ⟨(h.frz g ob hg).1, fun j o' hj => (h.frz g ob hg).2 j o' (old j o' hj).2⟩, h.zown, h.dat, h.topx⟩
 simp only [killO, List.mem_cons, not_or] at hn
 obtain ⟨⟨o2, h1⟩, h2⟩ := h.same j o' hj hn.2
 exact ⟨⟨o2, by simp only [killO]; rw [Tr.get_put, if_neg hn.1]; exact h1⟩, h2⟩
theorem WRel.adopt (h : WRel P w0 A ν s w) {k n' g : Nat} {o : AObj} {obj : Obj} (hk : ν k = none) (hn : s.n ≤ n') (hkn : k < n') (hg : w.heap[g]? = some obj) (h0 : w0.heap.size ≤ g) (hno : ∀ i o, s.h.get i = some o → ν i ≠ some g) (hfz : ν.z g = none)
  (hown : A.w.heap.size ≤ g ∨ ∃ j o, A.h.get j = some o ∧ A.ν j = some g) (hO : ORel P (ν.set k g) o obj) : WRel P w0 A (ν.set k g) ⟨s.h.put k (some o), n', s.log, s.x⟩ w := by
 have hle := Nm.le_set hk g
 have νold : ∀ j, j ≠ k → (ν.set k g) j = ν j := fun j hj => by simp [Nm.set, hj]
 have old : ∀ j o', (s.h.put k (some o)).get j = some o' → j ≠ k → s.h.get j = some o' := fun j o' hj hne => by
  rw [Tr.get_put, if_neg hne] at hj
  exact hj
 have hne : ∀ j o', s.h.get j = some o' → j ≠ k := fun j o' hj e => h.named hk o' (e ▸ hj)
 refine ⟨h.keep, fun i hi => ?_, fun j o' hj => ?_, fun i j o1 o2 hi hj e => ?_, h.ext.trans hle, h.anc, fun j o' hj hn => ?_, h.far, h.big, fun j o' hj g' hg' => ?_, h.ctx.mono hle, fun g' ob hg' => ⟨(h.frz g' ob hg').1, fun j o' hj => ?_⟩, h.zown, h.dat, fun i hi => h.topx i (Nat.le_trans hn hi)⟩
 ·simp only at hi
  rw [νold i (by omega)]
  exact h.top i (by omega)
 ·by_cases e : j = k
  ·subst e
   rw [Tr.get_put, if_pos rfl] at hj
   injection hj with hj
   subst hj
   exact ⟨g, obj, Nm.set_same _ _ _, h0, hg, hO⟩
  ·obtain ⟨g', obj', h1, h2, h3, h4⟩ := h.objs j o' (old j o' hj e)
   exact ⟨g', obj', hle _ _ h1, h2, h3, h4.mono hle⟩
 ·by_cases ei : i = k <;> by_cases ej : j = k
  ·rw [ei, ej]
  ·rw [ei, Nm.set_same, νold j ej] at e
   exact absurd e.symm (hno j o2 (old j o2 hj ej))
  ·rw [ej, Nm.set_same, νold i ei] at e
   exact absurd e (hno i o1 (old i o1 hi ei))
  ·rw [νold i ei, νold j ej] at e
   exact h.inj i j o1 o2 (old i o1 hi ei) (old j o2 hj ej) e
 ·obtain ⟨⟨o2, h1⟩, h2⟩ := h.same j o' hj hn
  exact ⟨⟨o2, by rw [Tr.get_put, if_neg (hne j o2 h1)]; exact h1⟩, h2⟩
 ·by_cases e : j = k
  ·subst e
   rw [Nm.set_same] at hg'
   injection hg' with hg'
   subst hg'
   exact hown
  ·rw [νold j e] at hg'
   exact h.own j o' (old j o' hj e) g' hg'
 ·by_cases e : j = k
  ·subst e
   rw [Nm.set_same]
   intro e
   injection e with e
   subst e
   have hg' : ν.z g = some ob := hg'
   rw [hfz] at hg'
   cases hg'
  ·rw [νold j e]
   exact (h.frz g' ob hg').2 j o' (old j o' hj e)
theorem WRel.blk (h : WRel P w0 A ν s w) {i g : Nat} {l : List AV} {t : TypeId} {c : Option Nat} (hi : s.h.get i = some (.cells l t c)) (hg : ν i = some g) :
  ∃ L R, denL ν l = some L ∧ Blk w g t (L ++ R).toArray ∧ (match c with | none => R = [] | some c => ∃ cap i, ν c = some cap ∧ P.info? t = some i ∧ (L ++ R).length = cap * i.size) := by
 obtain ⟨obj, h1, h2⟩ := h.at_ hi hg
 cases obj <;> simp only [ORel] at h2 <;> try exact h2.elim
 rename_i arr t' fz
 obtain ⟨rfl, hfz, L, R, h3, h4, h5⟩ := h2
 refine ⟨L, R, h3, ?_, ?_⟩
 ·exact ⟨fz, by rw [h1, ← h4], by rw [← h4]; exact hfz⟩
 ·cases c with
  | none => exact h5
  | some c =>
   obtain ⟨cap, i, h6, h7, h8⟩ := h5
   exact ⟨cap, i, h6, h7, by rw [← h4]; simpa using h8⟩
theorem Upd.put {w : World} {g : Nat} {t : TypeId} {cs' : List Value} (hlt : g < w.heap.size) (off : Nat) (vs : List Value) (hb : Blk (putCells w g off vs) g t cs'.toArray) : ∃ fz, NoFz fz cs'.toArray.size ∧ Upd w g (.cells cs'.toArray t fz) (putCells w g off vs) := by
 obtain ⟨h1, h2, h3, h4⟩ := putCells_same (g := g) vs w off
 obtain ⟨fz, hb, k⟩ := hb
 exact ⟨fz, k, h2, h3, h4, h1, hb, fun k hk => putCells_heap hk vs w off⟩
theorem Upd.obj {w : World} {g : Nat} (obj : Obj) (hlt : g < w.heap.size) : Upd w g obj (w.putObj g obj) :=
 ⟨rfl, rfl, rfl, by simp, World.putObj_heap_same hlt, fun k hk => World.putObj_heap_other hk⟩
end
theorem flatU_ok {P : Program} {z : Nat → Option Obj} {x : Option Dat} {d : Dat} (h : flatU x = some d) : DatOk P z d := by
 unfold flatU at h
 split at h
 ·injection h with h; subst h; trivial
 ·injection h with h; subst h; trivial
 ·cases h
theorem cell_ok {P : Program} {z : Nat → Option Obj} {e : TypeId} {v : Value} {xs : List Dat} {i j : Nat} {d c : Dat} (h : DatOk P z (.r e v xs)) (hi : xs[i]? = some d) (hj : cellD d j = some c) : DatOk P z c := by
 rcases h with ⟨_, rfl⟩ | ⟨g, off, cap, size, arr, fz, ts, tb, h3, h4, h5, h6, h7, h8, h9, h10, h11⟩
 ·simp at hi
 by_cases hj2 : j < size
 ·have hlt : i < xs.length := (List.getElem?_eq_some_iff.1 hi).1
  have hts : ts[j]? = some (ts[j]'(by omega)) := List.getElem?_eq_getElem _
  have hm : (i + 1) * size ≤ xs.length * size := Nat.mul_le_mul_right _ hlt
  have hm2 : (i + 1) * size = i * size + size := by rw [Nat.add_mul, Nat.one_mul]
  have harr : off + i * size + j < arr.size := by omega
  exact (h11 i j d c _ _ hi hj hts (Array.getElem?_eq_getElem harr)).ok
 ·exact absurd ((h10 i d hi j).1 (by rw [hj]; rfl)) hj2
theorem oneF_some {g : Dat → Option Dat} {ds : List Dat} {d : Dat} (h : oneF g ds = some d) : ∃ a, ds = [a] ∧ g a = some d := by
 unfold oneF at h
 split at h
 ·exact ⟨_, rfl, h⟩
 ·cases h
theorem twoF_some {g : Dat → Dat → Option Dat} {ds : List Dat} {d : Dat} (h : twoF g ds = some d) : ∃ a b, ds = [a, b] ∧ g a b = some d := by
 unfold twoF at h
 split at h
 ·exact ⟨_, _, rfl, h⟩
 ·cases h
theorem threeF_some {g : Dat → Dat → Dat → Option Dat} {ds : List Dat} {d : Dat} (h : threeF g ds = some d) : ∃ a b c, ds = [a, b, c] ∧ g a b c = some d := by
 unfold threeF at h
 split at h
 ·exact ⟨_, _, _, rfl, h⟩
 ·cases h
theorem lenF_some {a d : Dat} (h : lenF a = some d) : ∃ n : Nat, d = .n n := by
 unfold lenF at h
 split at h <;> first | (cases h; done) | (injection h with h; exact ⟨_, h.symm⟩)
theorem catF_some {a b d : Dat} (h : catF a b = some d) : (∃ x y, a = .s x ∧ b = .s y ∧ d = .s (x ++ y)) ∨ ∃ x y, a = .l x ∧ b = .l y ∧ d = .l (x ++ y) := by
 unfold catF at h
 split at h
 ·split at h
  ·injection h with h; exact .inl ⟨_, _, rfl, rfl, h.symm⟩
  ·cases h
 ·split at h
  ·injection h with h; exact .inr ⟨_, _, rfl, rfl, h.symm⟩
  ·cases h
 ·cases h
theorem eqF_some {a b d : Dat} (h : eqF a b = some d) : ∃ x y, a = .s x ∧ b = .s y ∧ d = b01 (x == y) := by
 unfold eqF at h
 split at h
 ·split at h
  ·injection h with h; exact ⟨_, _, rfl, rfl, h.symm⟩
  ·cases h
 ·cases h
theorem numF_some {g : Int → Int → Dat} {a b d : Dat} (h : numF g a b = some d) : ∃ x y, a = .n x ∧ b = .n y ∧ d = g x y := by
 unfold numF at h
 split at h
 ·split at h
  ·injection h with h; exact ⟨_, _, rfl, rfl, h.symm⟩
  ·cases h
 ·cases h
theorem partU_some {a i j d : Dat} (h : partU a i j = some d) : ∃ (x : List UInt8) (m n : Int), a = .s x ∧ i = .n m ∧ j = .n n ∧ 0 ≤ m ∧ m ≤ n ∧ n ≤ x.length ∧ d = .s ((x.drop m.toNat).take (n.toNat - m.toNat)) := by
 unfold partU at h
 split at h
 ·split at h
  ·split at h
   ·split at h
    ·rename_i hc
     injection h with h
     exact ⟨_, _, _, rfl, rfl, rfl, hc.1, hc.2.1, hc.2.2, h.symm⟩
    ·cases h
   ·cases h
  ·cases h
 ·cases h
theorem cellU_some {a i j d : Dat} (h : cellU a i j = some d) : ∃ (e : TypeId) (v : Value) (xs : List Dat) (m n : Int) (x : Dat), a = .r e v xs ∧ i = .n m ∧ j = .n n ∧ 0 ≤ m ∧ 0 ≤ n ∧ xs[m.toNat]? = some x ∧ cellD x n.toNat = some d := by
 unfold cellU at h
 split at h
 ·split at h
  ·split at h
   ·split at h
    ·rename_i hc
     rw [Option.bind_eq_some_iff] at h
     obtain ⟨x, h6, h7⟩ := h
     exact ⟨_, _, _, _, _, x, rfl, rfl, rfl, hc.1, hc.2, h6, h7⟩
    ·cases h
   ·cases h
  ·cases h
 ·cases h
theorem byteF_some {a i d : Dat} (h : byteF a i = some d) : ∃ (x : List UInt8) (m : Int) (b : UInt8), a = .s x ∧ i = .n m ∧ 0 ≤ m ∧ x[m.toNat]? = some b ∧ d = .n b.toNat := by
 unfold byteF at h
 split at h
 ·split at h
  ·split at h
   ·rename_i hc
    rw [Option.map_eq_some_iff] at h
    obtain ⟨b, h5, h6⟩ := h
    exact ⟨_, _, b, rfl, rfl, hc, h5, h6.symm⟩
   ·cases h
  ·cases h
 ·cases h
theorem notF_some {a d : Dat} (h : notF a = some d) : ∃ m, a = .n m ∧ d = b01 (m == 0) := by
 unfold notF at h
 split at h
 ·injection h with h; exact ⟨_, rfl, h.symm⟩
 ·cases h
theorem emptyF_some {a d : Dat} (h : emptyF a = some d) : ∃ m : Int, a = .n m ∧ d = .r m.toNat (.slice none 0 0) [] := by
 unfold emptyF at h
 split at h
 ·injection h with h; exact ⟨_, rfl, h.symm⟩
 ·cases h
theorem rowF_some {a d : Dat} (h : rowF a = some d) : ∃ e v xs, a = .r e v xs ∧ d = .l xs := by
 unfold rowF at h
 split at h
 ·injection h with h; exact ⟨_, _, _, rfl, h.symm⟩
 ·cases h
theorem stdU_ok {P : Program} {z : Nat → Option Obj} {o : Nat} {ds : List Dat} {d : Dat} (h : stdU o ds = some d) (hd : ∀ x ∈ ds, DatOk P z x) : DatOk P z d := by
 unfold stdU at h
 split at h
 ·exact flatU_ok h
 ·unfold baseU at h
  split at h
  ·obtain ⟨a, rfl, h⟩ := oneF_some h; obtain ⟨n, rfl⟩ := lenF_some h; trivial
  ·obtain ⟨a, b, c, rfl, h⟩ := threeF_some h
   obtain ⟨e, v, xs, m, n, x, rfl, rfl, rfl, _, _, hx, hc⟩ := cellU_some h
   exact cell_ok (hd _ (List.mem_cons_self ..)) hx hc
  ·obtain ⟨a, b, rfl, h⟩ := twoF_some h
   rcases catF_some h with ⟨x, y, _, _, rfl⟩ | ⟨x, y, _, _, rfl⟩ <;> trivial
  ·rw [Option.map_eq_some_iff] at h; obtain ⟨x, _, rfl⟩ := h; trivial
  ·obtain ⟨a, b, rfl, h⟩ := twoF_some h
   obtain ⟨x, y, _, _, rfl⟩ := eqF_some h; trivial
  ·obtain ⟨a, b, rfl, h⟩ := twoF_some h
   obtain ⟨x, y, _, _, rfl⟩ := numF_some h; trivial
  ·obtain ⟨a, b, rfl, h⟩ := twoF_some h
   obtain ⟨x, y, _, _, rfl⟩ := numF_some h; trivial
  ·obtain ⟨a, b, rfl, h⟩ := twoF_some h
   obtain ⟨x, y, _, _, rfl⟩ := numF_some h; trivial
  ·obtain ⟨a, b, c, rfl, h⟩ := threeF_some h
   obtain ⟨x, m, n, rfl, rfl, rfl, _, _, _, rfl⟩ := partU_some h; trivial
  ·obtain ⟨a, b, rfl, h⟩ := twoF_some h
   obtain ⟨x, m, n, rfl, rfl, _, _, rfl⟩ := byteF_some h; trivial
  ·obtain ⟨a, rfl, h⟩ := oneF_some h; obtain ⟨n, _, rfl⟩ := notF_some h; trivial
  ·injection h with h; subst h; trivial
  ·obtain ⟨a, b, rfl, h⟩ := twoF_some h
   obtain ⟨x, y, _, _, rfl⟩ := numF_some h; trivial
  ·injection h with h; subst h; trivial
  ·obtain ⟨a, rfl, h⟩ := oneF_some h; obtain ⟨n, _, rfl⟩ := emptyF_some h; exact .inl ⟨.inl rfl, rfl⟩
  ·obtain ⟨a, rfl, h⟩ := oneF_some h; obtain ⟨e, v, xs, _, rfl⟩ := rowF_some h; trivial
  ·obtain ⟨a, b, rfl, h⟩ := twoF_some h; injection h with h; subst h; trivial
  ·cases h
mutual
theorem denT_ok {P : Program} {ν : Nm} (hν : ∀ i d, ν.x i = some d → DatOk P ν.z d) : ∀ {t : Tm} {d : Dat}, denT ν t = some d → DatOk P ν.z d
 | .c n, d, h => by simp only [denT, Option.some.injEq] at h; subst h; trivial
 | .x i, d, h => hν i d h
 | .bin o k a b, d, h => by
  simp only [denT] at h
  split at h
  ·unfold binZ at h
   split at h
   ·injection h with h; subst h; trivial
   ·injection h with h; subst h; trivial
   ·cases h
  ·cases h
 | .conv k a, d, h => by
  simp only [denT] at h
  split at h
  ·injection h with h; subst h; trivial
  ·cases h
 | .f o l, d, h => by
  simp only [denT] at h
  split at h
  ·rename_i ds hds
   split at h
   ·split at h
    ·injection h with h; subst h; trivial
    ·cases h
   ·exact stdU_ok h (denTs_ok hν hds)
  ·cases h
theorem denTs_ok {P : Program} {ν : Nm} (hν : ∀ i d, ν.x i = some d → DatOk P ν.z d) : ∀ {l : List Tm} {ds : List Dat}, denTs ν l = some ds → ∀ x ∈ ds, DatOk P ν.z x
 | [], ds, h => by simp only [denTs, Option.some.injEq] at h; subst h; intro x hx; cases hx
 | t :: l, ds, h => by
  simp only [denTs] at h
  split at h
  ·rename_i d ds' h1 h2
   injection h with h
   subst h
   intro x hx
   rcases List.mem_cons.1 hx with rfl | hx
   ·exact denT_ok hν h1
   ·exact denTs_ok hν h2 x hx
  ·cases h
end
end Go.Proofs.YtcjbpaiomcfgnaaGreatDoor
namespace Go.Proofs.YtcjbpaiomcfgnaaGreatDoor
open Go Go.RowKit
theorem intEq_spec (a b : Int) : intEq a b = (a == b) := by
 cases a <;> cases b <;> simp only [intEq]
 ·rename_i m n
  cases h : Nat.beq m n with
  | true => rw [Nat.eq_of_beq_eq_true h]; simp
  | false =>
   have := Nat.ne_of_beq_eq_false h
   symm
   simp only [beq_eq_false_iff_ne, ne_eq]
   intro e
   injection e with e
   exact this e
 ·rfl
 ·rfl
 ·rename_i m n
  cases h : Nat.beq m n with
  | true => rw [Nat.eq_of_beq_eq_true h]; simp
  | false =>
   have := Nat.ne_of_beq_eq_false h
   symm
   simp only [beq_eq_false_iff_ne, ne_eq]
   intro e
   injection e with e
   exact this e
theorem kindEq_spec {a b : IntKind} (h : kindEq a b = true) : a = b := by cases a <;> cases b <;> first | rfl | cases h
theorem bytesEq_spec : ∀ (a b : List UInt8), bytesEq a b = (a == b)
 | [], [] => rfl
 | [], _ :: _ => rfl
 | _ :: _, [] => rfl
 | a :: x, b :: y => by
  simp only [bytesEq]
  rw [List.cons_beq_cons]
  cases h : Nat.beq a.toNat b.toNat with
  | true =>
   have : a = b := UInt8.toNat_inj.1 (Nat.eq_of_beq_eq_true h)
   subst this
   simp [bytesEq_spec x y]
  | false =>
   have : a ≠ b := fun e => Nat.ne_of_beq_eq_false h (by rw [e])
   have h2 : (a == b) = false := by simpa using this
   simp [h2]
theorem bytesLt_spec : ∀ (a b : List UInt8), bytesLt a b = Op.bytesLess a b
 | _, [] => by unfold bytesLt Op.bytesLess; rfl
 | [], _ :: _ => rfl
 | a :: x, b :: y => by
  simp only [bytesLt, Op.bytesLess]
  cases h : Nat.ble (a.toNat + 1) b.toNat with
  | true =>
   have : a < b := UInt8.lt_iff_toNat_lt.2 (Nat.le_of_ble_eq_true h)
   simp [this]
  | false =>
   have h0 : ¬ a.toNat + 1 ≤ b.toNat := fun hle => by rw [Nat.ble_eq_true_of_le hle] at h; cases h
   have : ¬ a < b := fun hlt => h0 (UInt8.lt_iff_toNat_lt.1 hlt)
   cases h1 : Nat.beq a.toNat b.toNat with
   | true =>
    have e : a = b := UInt8.toNat_inj.1 (Nat.eq_of_beq_eq_true h1)
    subst e
    simp [bytesLt_spec x y]
   | false =>
    have e : a ≠ b := fun e => Nat.ne_of_beq_eq_false h1 (by rw [e])
    simp [this, e]
theorem ba_toList (l : List UInt8) : (ByteArray.mk l.toArray).toList = l := by
 rw [ByteArray.toList_eq]
theorem ba_append (l m : List UInt8) : (ByteArray.mk l.toArray) ++ (ByteArray.mk m.toArray) = ByteArray.mk (l ++ m).toArray := by
 apply ByteArray.ext
 simp
section
variable {P : Program} {ν : Nm} {w : World}
theorem run_isAgg {t : TypeId} {b : Bool} (h : isAggT P t = some b) : (isAgg t).run P w = .ok b w := by
 unfold isAggT at h
 show (Sem.bind (underlying t) _).run P w = _
 rw [run_bind]
 cases hu : P.underlying t with
 | none => rw [hu] at h; cases h
 | some d =>
  rw [run_underlying hu]
  rw [hu] at h
  cases d <;> simp only [Option.some.injEq] at h <;> subst h <;> rfl
theorem sizeT_spec {t : TypeId} {n : Nat} (h : sizeT P t = some n) : ∃ i, P.info? t = some i ∧ i.size = n := by
 unfold sizeT at h
 cases hi : P.info? t with
 | none => rw [hi] at h; cases h
 | some i => rw [hi] at h; injection h with h; exact ⟨i, rfl, h⟩
theorem run_sizeT {t : TypeId} {n : Nat} (h : sizeT P t = some n) : (sizeOf t).run P w = .ok n w := by
 obtain ⟨i, hi, rfl⟩ := sizeT_spec h
 exact run_sizeOf hi
theorem isAggT_und {t : TypeId} {b : Bool} (h : isAggT P t = some b) : ∃ d, P.underlying t = some d ∧ (b = true → (∃ fs, d = .struct fs) ∨ ∃ n e, d = .array n e) ∧ (b = false → (∀ fs, d ≠ .struct fs) ∧ ∀ n e, d ≠ .array n e) := by
 unfold isAggT at h
 cases hu : P.underlying t with
 | none => rw [hu] at h; cases h
 | some d =>
  rw [hu] at h
  refine ⟨d, rfl, ?_, ?_⟩ <;> cases d <;> simp_all
theorem run_part {t : TypeId} {cs : List AV} {CS : List Value} {off : Nat} {v : AV} (hc : denL ν cs = some CS) (h : partA P t cs off = some v) : ∃ V, den ν v = some V ∧ (part t CS.toArray off).run P w = .ok V w := by
 unfold partA at h
 split at h
 ·rename_i ha
  split at h
  ·rename_i n hn
   rw [Option.map_eq_some_iff] at h
   obtain ⟨r, hr, rfl⟩ := h
   obtain ⟨h1, h2⟩ := denL_cut hc hr
   refine ⟨.agg ((CS.drop off).take n).toArray, by simp [den, h1], ?_⟩
   show (Sem.bind (isAgg t) _).run P w = _
   rw [run_bind, run_isAgg ha]
   show (Sem.bind (sizeOf t) _).run P w = _
   rw [run_bind, run_sizeT hn]
   show Result.ok _ w = _
   congr 2
   simp [List.extract_eq_take_drop]
  ·cases h
 ·rename_i ha
  obtain ⟨V, h1, h2⟩ := denL_get hc h
  refine ⟨V, h2, ?_⟩
  show (Sem.bind (isAgg t) _).run P w = _
  rw [run_bind, run_isAgg ha]
  simp only [Bool.false_eq_true, if_false, List.getElem?_toArray, h1]
  rfl
 ·cases h
theorem partA_load {t : TypeId} {l : List AV} {L R : List Value} {off : Nat} {v : AV} (hl : denL ν l = some L) (h : partA P t l off = some v) : ∃ V, den ν v = some V ∧ loadOf P t (L ++ R) off = some V := by
 unfold partA at h
 split at h
 ·rename_i ha
  split at h
  ·rename_i n hn
   rw [Option.map_eq_some_iff] at h
   obtain ⟨r, hr, rfl⟩ := h
   obtain ⟨h1, h2⟩ := denL_cut hl hr
   obtain ⟨i, hi, rfl⟩ := sizeT_spec hn
   obtain ⟨d, hd, hag, _⟩ := isAggT_und ha
   have e : ((L ++ R).drop off).take i.size = (L.drop off).take i.size := by
    rcases Nat.eq_zero_or_pos i.size with h0 | h0
    ·simp [h0]
    ·have : off + i.size ≤ L.length := by simp at h2; omega
     rw [List.drop_append_of_le_length (by omega), List.take_append_of_le_length (by simp; omega)]
   refine ⟨.agg ((L.drop off).take i.size).toArray, by simp [den, h1], ?_⟩
   unfold loadOf
   rw [hd]
   rcases hag rfl with ⟨fs, rfl⟩ | ⟨n, el, rfl⟩ <;> simp only [hi, e, h2, if_true]
  ·cases h
 ·rename_i ha
  obtain ⟨V, h1, h2⟩ := denL_get hl h
  obtain ⟨d, hd, _, hna⟩ := isAggT_und ha
  refine ⟨V, h2, ?_⟩
  unfold loadOf
  rw [hd]
  have : (L ++ R)[off]? = some V := by
   rw [List.getElem?_append_left (List.getElem?_eq_some_iff.1 h1).1]
   exact h1
  cases d <;> first | exact this | (exact absurd rfl ((hna rfl).1 _)) | (exact absurd rfl ((hna rfl).2 _ _))
 ·cases h
theorem zeroA_spec {t : TypeId} {v : AV} (h : zeroA P t = some v) : ∃ i z, P.info? t = some i ∧ i.zero = some z ∧ den ν v = some z := by
 unfold zeroA at h
 cases hi : P.info? t with
 | none => rw [hi] at h; cases h
 | some i =>
  rw [hi] at h
  simp only at h
  cases hz : i.zero with
  | none => rw [hz] at h; cases h
  | some z => rw [hz] at h; exact ⟨i, z, rfl, hz, ofV_den h⟩
theorem run_zeroA {t : TypeId} {v : AV} (h : zeroA P t = some v) : ∃ z, den ν v = some z ∧ (zeroValue t).run P w = .ok z w := by
 obtain ⟨i, z, hi, hz, hd⟩ := zeroA_spec (ν := ν) h
 refine ⟨z, hd, ?_⟩
 show (Sem.bind (typeInfo t) _).run P w = _
 rw [run_bind, run_info hi]
 simp only [hz]
 rfl
theorem run_intBin {op : BinOp} {k : IntKind} {x y : Int} {v : AV} (h : intBinA op k x y = some v) (ty : TypeId) : ∃ V, den ν v = some V ∧ (binOp op ty (.int k x) (.int k y)).run P w = .ok V w := by
 cases op <;> simp only [intBinA] at h <;> (try (cases h; done))
 case quo =>
  split at h
  ·cases h
  ·rename_i hne
   rw [intEq_spec] at hne
   injection h with h
   subst h
   refine ⟨_, rfl, ?_⟩
   simp only [binOp, ne_eq, not_true, if_false, Op.intDiv]
   rw [if_neg (by simpa using hne)]
   rfl
 case rem =>
  split at h
  ·cases h
  ·rename_i hne
   rw [intEq_spec] at hne
   injection h with h
   subst h
   refine ⟨_, rfl, ?_⟩
   simp only [binOp, ne_eq, not_true, if_false, Op.intDiv]
   rw [if_neg (by simpa using hne)]
   rfl
 all_goals
  injection h with h
  subst h
  refine ⟨_, rfl, ?_⟩
  simp only [binOp, ne_eq, not_true, if_false, Op.intArith, Op.intBits, Op.intCmp, intEq_spec]
  rfl
theorem run_shift {op : BinOp} {k k' : IntKind} {x y : Int} {v : AV} (h : shiftA op k x y = some v) (hop : op = .shl ∨ op = .shr) (ty : TypeId) : ∃ V, den ν v = some V ∧ (binOp op ty (.int k x) (.int k' y)).run P w = .ok V w := by
 unfold shiftA at h
 split at h
 ·cases h
 ·rename_i hy
  have hy : ¬ y < 0 := by simpa using hy
  rcases hop with rfl | rfl <;> simp only [Option.some.injEq] at h <;> subst h <;> refine ⟨_, rfl, ?_⟩ <;> simp only [binOp, Op.shift, if_neg hy] <;> rfl
theorem run_strBin {op : BinOp} {x y : List UInt8} {v : AV} (h : strBinA op x y = some v) (ty : TypeId) : ∃ V, den ν v = some V ∧ (binOp op ty (.string ⟨x.toArray⟩) (.string ⟨y.toArray⟩)).run P w = .ok V w := by
 cases op <;> simp only [strBinA] at h <;> (try (cases h; done))
 case add =>
  split at h
  ·cases h
  ·rename_i hy
   have hy : ¬ ((x.length + y.length : Nat) : Int) > IntKind.i64.max := by simpa using hy
   injection h with h
   subst h
   refine ⟨_, rfl, ?_⟩
   have e : ((ByteArray.mk x.toArray).size + (ByteArray.mk y.toArray).size : Nat) = x.length + y.length := rfl
   simp only [binOp, Op.stringOp, e, if_neg hy, ba_append]
   rfl
 all_goals
  injection h with h
  subst h
  refine ⟨_, rfl, ?_⟩
  simp only [binOp, Op.stringOp, ba_toList, bytesEq_spec, bytesLt_spec]
  rfl
theorem eqFieldsA_sound {D : Nat} {E : TypeId → AV → AV → Option Bool} (hE : ∀ t x y b X Y, E t x y = some b → den ν x = some X → den ν y = some Y → (Op.equalIn D t X Y).run P w = .ok b w) {xs ys : List AV} {XS YS : List Value}
  (hx : denL ν xs = some XS) (hy : denL ν ys = some YS) : ∀ (fs : List Field) {b : Bool}, eqFieldsA P E xs ys fs = some b →
  (forIn fs ((none : Option Bool), ()) fun f __s => if f.name ≠ "_" then
    (part f.type XS.toArray f.offset).bind fun x => (part f.type YS.toArray f.offset).bind fun y => (Op.equalIn D f.type x y).bind fun b =>
     if (!b) = true then (pure (ForInStep.done (some false, ())) : Sem _) else pure (ForInStep.yield (none, ()))
   else pure (ForInStep.yield (none, ()))).run P w = .ok (if b then (none, ()) else (some false, ())) w
 | [], b, h => by
  simp only [eqFieldsA, Option.some.injEq] at h
  subst h
  rfl
 | f :: fs, b, h => by
  unfold eqFieldsA at h
  rw [List.forIn_cons]
  show (Sem.bind _ _).run P w = _
  rw [run_bind]
  split at h
  ·rename_i hn
   have hn : ¬ (f.name ≠ "_") := by simpa using hn
   rw [if_neg hn]
   exact eqFieldsA_sound hE hx hy fs h
  ·rename_i hn
   have hn : f.name ≠ "_" := by simpa using hn
   rw [if_pos hn]
   split at h
   ·rename_i x y h1 h2
    obtain ⟨X, hX, r1⟩ := run_part (P := P) (w := w) hx h1
    obtain ⟨Y, hY, r2⟩ := run_part (P := P) (w := w) hy h2
    rw [run_bind, r1]
    simp only []
    rw [run_bind, r2]
    simp only []
    split at h
    ·rename_i he
     rw [run_bind, hE _ _ _ _ _ _ he hX hY]
     exact eqFieldsA_sound hE hx hy fs h
    ·rename_i he
     rw [run_bind, hE _ _ _ _ _ _ he hX hY]
     injection h with h
     subst h
     rfl
    ·cases h
   ·cases h
theorem eqElemsA_sound {D : Nat} {e : TypeId} {size : Nat} {E : AV → AV → Option Bool} (hE : ∀ x y b X Y, E x y = some b → den ν x = some X → den ν y = some Y → (Op.equalIn D e X Y).run P w = .ok b w) {xs ys : List AV} {XS YS : List Value}
  (hx : denL ν xs = some XS) (hy : denL ν ys = some YS) : ∀ (n i : Nat) {b : Bool}, eqElemsA P E e size xs ys n i = some b →
  (forIn (List.range' i n) ((none : Option Bool), ()) fun i __s =>
    (part e XS.toArray (i * size)).bind fun x => (part e YS.toArray (i * size)).bind fun y => (Op.equalIn D e x y).bind fun b =>
     if (!b) = true then (pure (ForInStep.done (some false, ())) : Sem _) else pure (ForInStep.yield (none, ()))).run P w = .ok (if b then (none, ()) else (some false, ())) w
 | 0, i, b, h => by
  simp only [eqElemsA, Option.some.injEq] at h
  subst h
  rfl
 | n + 1, i, b, h => by
  unfold eqElemsA at h
  rw [List.range'_succ, List.forIn_cons]
  show (Sem.bind _ _).run P w = _
  rw [run_bind]
  split at h
  ·rename_i x y h1 h2
   obtain ⟨X, hX, r1⟩ := run_part (P := P) (w := w) hx h1
   obtain ⟨Y, hY, r2⟩ := run_part (P := P) (w := w) hy h2
   rw [run_bind, r1]
   simp only []
   rw [run_bind, r2]
   simp only []
   split at h
   ·rename_i he
    rw [run_bind, hE _ _ _ _ _ he hX hY]
    exact eqElemsA_sound hE hx hy n (i + 1) h
   ·rename_i he
    rw [run_bind, hE _ _ _ _ _ he hX hY]
    injection h with h
    subst h
    rfl
   ·cases h
  ·cases h
theorem eqA_sound : ∀ (d D : Nat) (t : TypeId) (x y : AV) (b : Bool) (X Y : Value), d ≤ D → eqA P d t x y = some b → den ν x = some X → den ν y = some Y → (Op.equalIn D t X Y).run P w = .ok b w
 | 0, _, _, _, _, _, _, _, _, h, _, _ => by simp [eqA] at h
 | d + 1, 0, _, _, _, _, _, _, hd, _, _, _ => by omega
 | d + 1, D + 1, t, x, y, b, X, Y, hd, h, hX, hY => by
  have ih := fun (t : TypeId) (x y : AV) (b : Bool) (X Y : Value) => eqA_sound d D t x y b X Y (by omega)
  have go : ∀ {ds : TypeDesc} {s : TypeDesc → Sem Bool}, P.underlying t = some ds → (s ds).run P w = .ok b w → (Sem.bind (underlying t) s).run P w = .ok b w := fun hu hs => by
   rw [run_bind, run_underlying hu]; exact hs
  unfold eqA at h
  split at h
  ·rename_i hu
   split at h
   ·rename_i a c
    injection h with h
    simp only [den, Option.some.injEq] at hX hY
    subst hX hY h
    exact go hu rfl
   ·cases h
  ·rename_i k hu
   split at h
   ·rename_i k a k' c
    split at h
    ·rename_i hk
     have := kindEq_spec hk
     injection h with h
     simp only [den, Option.some.injEq] at hX hY
     subst hX hY h this
     refine go hu ?_
     simp only [if_true, intEq_spec]
     rfl
    ·cases h
   ·cases h
  ·rename_i hu
   split at h
   ·rename_i a c
    injection h with h
    simp only [den, Option.some.injEq] at hX hY
    subst hX hY h
    refine go hu ?_
    have e : ((ByteArray.mk a.toArray) == (ByteArray.mk c.toArray)) = (a == c) := by
     show (a.toArray == c.toArray) = _
     simp
    simp only [bytesEq_spec, e]
    rfl
   ·cases h
  ·rename_i el hu
   split at h
   ·injection h with h
    simp only [den, Option.some.injEq] at hX hY
    subst hX hY h
    exact go hu rfl
   ·injection h with h
    obtain ⟨g, _, rfl⟩ := ptr_den hY
    simp only [den, Option.some.injEq] at hX
    subst hX h
    exact go hu rfl
   ·injection h with h
    obtain ⟨g, _, rfl⟩ := ptr_den hX
    simp only [den, Option.some.injEq] at hY
    subst hY h
    exact go hu rfl
   ·cases h
  ·rename_i el hu
   split at h
   ·injection h with h
    simp only [den, Option.some.injEq] at hX hY
    subst hX hY h
    exact go hu rfl
   ·injection h with h
    obtain ⟨g, n, _, _, _, rfl⟩ := slice_den hY
    simp only [den, Option.some.injEq] at hX
    subst hX h
    exact go hu rfl
   ·injection h with h
    obtain ⟨g, n, _, _, _, rfl⟩ := slice_den hX
    simp only [den, Option.some.injEq] at hY
    subst hY h
    exact go hu rfl
   ·cases h
  ·rename_i el hu
   split at h
   ·injection h with h
    simp only [den, Option.some.injEq] at hX hY
    subst hX hY h
    exact go hu rfl
   ·injection h with h
    obtain ⟨g, _, rfl⟩ := map_den hY
    simp only [den, Option.some.injEq] at hX
    subst hX h
    exact go hu rfl
   ·injection h with h
    obtain ⟨g, _, rfl⟩ := map_den hX
    simp only [den, Option.some.injEq] at hY
    subst hY h
    exact go hu rfl
   ·cases h
  ·rename_i hu
   split at h
   ·injection h with h
    simp only [den, Option.some.injEq] at hX hY
    subst hX hY h
    exact go hu rfl
   ·injection h with h
    obtain ⟨g, _, _, _, _, _, rfl⟩ := func_den hY
    simp only [den, Option.some.injEq] at hX
    subst hX h
    exact go hu rfl
   ·injection h with h
    obtain ⟨g, _, _, _, _, _, rfl⟩ := func_den hX
    simp only [den, Option.some.injEq] at hY
    subst hY h
    exact go hu rfl
   ·cases h
  ·rename_i fields hu
   split at h
   ·rename_i xs ys
    obtain ⟨XS, hxs, rfl⟩ := agg_den hX
    obtain ⟨YS, hys, rfl⟩ := agg_den hY
    split at h
    ·cases h
    ·rename_i hs
     rw [Op.equalIn]
     show (Sem.bind (underlying t) _).run P w = _
     rw [run_bind, run_underlying hu]
     simp only [program, bind, Sem.bind, Sem.run, hs]
     have := eqFieldsA_sound (P := P) (w := w) (D := D) (fun t x y b X Y => ih t x y b X Y) hxs hys fields.toList h
     rw [if_neg (by simp), run_bind]
     rw [← Array.forIn_toList, this]
     cases b <;> rfl
   ·cases h
  ·rename_i len el hu
   split at h
   ·rename_i xs ys
    obtain ⟨XS, hxs, rfl⟩ := agg_den hX
    obtain ⟨YS, hys, rfl⟩ := agg_den hY
    split at h
    ·rename_i n hn
     rw [Op.equalIn]
     show (Sem.bind (underlying t) _).run P w = _
     rw [run_bind, run_underlying hu]
     simp only [bind]
     rw [run_bind, run_sizeT hn]
     simp only []
     have := eqElemsA_sound (P := P) (w := w) (D := D) (e := el) (size := n) (fun x y b X Y => ih el x y b X Y) hxs hys len 0 h
     rw [run_bind, Std.Legacy.Range.forIn_eq_forIn_range']
     simp only [Std.Legacy.Range.size, Nat.sub_zero, Nat.add_sub_cancel, Nat.div_one]
     rw [this]
     cases b <;> rfl
    ·cases h
   ·cases h
  ·cases h
end
end Go.Proofs.YtcjbpaiomcfgnaaGreatDoor
namespace Go.Proofs.YtcjbpaiomcfgnaaGreatDoor
open Go Go.RowKit
section
variable {P : Program} {ν : Nm} {w : World}
theorem natOf_spec {v : AV} {n : Nat} (h : natOf v = some n) : ∃ k, v = .int k (.ofNat n) := by
 cases v <;> simp only [natOf] at h <;> try (cases h; done)
 rename_i k m
 cases m with
 | ofNat m => simp only [natOf, Option.some.injEq] at h; subst h; exact ⟨k, rfl⟩
 | negSucc m => simp [natOf] at h
theorem run_sliceBound {k : IntKind} {n y : Nat} (h : n ≤ y) (code : BoundsCode) : (Instr.sliceBound (.int k (.ofNat n)) y code).run P w = .ok n w := by
 unfold Instr.sliceBound
 show (Sem.bind (asIntOf _) _).run P w = _
 rw [run_bind]
 show (if (0 : Int) ≤ Int.ofNat n ∧ (Int.ofNat n : Int) ≤ y then _ else _ : Sem Nat).run P w = _
 rw [if_pos ⟨Int.natCast_nonneg n, Int.ofNat_le.2 h⟩]
 rfl
def optD (ν : Nm) : Option AV → Option Value → Prop
 | none, r => r = none
 | some v, r => ∃ V, den ν v = some V ∧ r = some V
theorem capLe_spec {n C : Nat} {c : Cap} (h : capLe n c = true) (hc : capOf ν c = some C) : n ≤ C := by
 cases c with
 | k m => simp only [capOf, Option.some.injEq] at hc; subst hc; exact Nat.le_of_ble_eq_true h
 | u c m => cases h
theorem limB_spec {len C : Nat} {c : Cap} (hc : capOf ν c = some C) (hlen : len ≤ C) {n : Nat} (hn : limB len c n = true) : n ≤ C := by
 unfold limB at hn
 simp only [Bool.or_eq_true] at hn
 rcases hn with hn | hn
 ·exact Nat.le_trans (Nat.le_of_ble_eq_true hn) hlen
 ·exact capLe_spec hn hc
theorem run_maxB {len C : Nat} {c : Cap} (hc : capOf ν c = some C) (hlen : len ≤ C) {mx : Option AV} {MX : Option Value} (h3 : optD ν mx MX) {m : Option Nat} (h : maxB len c mx = some m) (isS : Bool) {α : Type} (f : Nat → Sem α) :
  (match MX with
    | some v => Sem.bind (Instr.sliceBound v C (if isS then .slice3Acap else .slice3Alen)) f
    | none => Sem.bind (pure C) f).run P w = (f (m.getD C)).run P w ∧ m.getD C ≤ C ∧ (MX = none ↔ m = none) := by
 cases mx with
 | none =>
  simp only [optD] at h3
  simp only [maxB, Option.some.injEq] at h
  subst h3 h
  exact ⟨by rw [run_bind]; rfl, Nat.le_refl _, by simp⟩
 | some v =>
  obtain ⟨V, hV, rfl⟩ := h3
  simp only [maxB] at h
  split at h
  ·rename_i n hn
   split at h
   ·rename_i hl
    injection h with h
    subst h
    obtain ⟨k, rfl⟩ := natOf_spec hn
    simp only [den, Option.some.injEq] at hV
    subst hV
    have := limB_spec hc hlen hl
    refine ⟨?_, this, by simp⟩
    rw [run_bind, run_sliceBound this]
    rfl
   ·cases h
  ·cases h
theorem run_hiB {len C : Nat} {c : Cap} (hc : capOf ν c = some C) (hlen : len ≤ C) {hi : Option AV} {HI MX : Option Value} (h2 : optD ν hi HI) {m : Option Nat} (hm : m.getD C ≤ C) (hM : MX = none ↔ m = none) {h' : Nat} (h : hiB len c m hi = some h') (isS : Bool) {α : Type} (f : Nat → Sem α) :
  (match HI, MX with
    | some v, some _ => Sem.bind (Instr.sliceBound v (m.getD C) .slice3B) f
    | some v, none => Sem.bind (Instr.sliceBound v (m.getD C) (if isS then .sliceAcap else .sliceAlen)) f
    | none, none => Sem.bind (pure len) f
    | none, some _ => Sem.bind (stuck "Slice: max without high") f).run P w = (f h').run P w ∧ h' ≤ m.getD C := by
 cases hi with
 | none =>
  simp only [optD] at h2
  subst h2
  cases m with
  | some m => simp [hiB] at h
  | none =>
   have : MX = none := hM.2 rfl
   subst this
   simp only [hiB, Option.some.injEq] at h
   subst h
   exact ⟨by rw [run_bind]; rfl, hlen⟩
 | some v =>
  obtain ⟨V, hV, rfl⟩ := h2
  simp only [hiB] at h
  split at h
  ·rename_i n hn
   obtain ⟨k, rfl⟩ := natOf_spec hn
   simp only [den, Option.some.injEq] at hV
   subst hV
   split at h
   ·rename_i m
    split at h
    ·rename_i hl
     injection h with h
     subst h
     have hl := Nat.le_of_ble_eq_true hl
     cases MX with
     | none => exact absurd (hM.1 rfl) (by simp)
     | some u =>
      simp only [Option.getD_some]
      refine ⟨?_, hl⟩
      rw [run_bind, run_sliceBound hl]
    ·cases h
   ·split at h
    ·rename_i hl
     injection h with h
     subst h
     have hl := limB_spec hc hlen hl
     have : MX = none := hM.2 rfl
     subst this
     simp only [Option.getD_none]
     refine ⟨?_, hl⟩
     rw [run_bind, run_sliceBound hl]
    ·cases h
  ·cases h
theorem run_loB {h' : Nat} {lo : Option AV} {LO : Option Value} (h1 : optD ν lo LO) {l : Nat} (h : loB h' lo = some l) (code : BoundsCode) {α : Type} (f : Nat → Sem α) :
  (match LO with
    | some v => Sem.bind (Instr.sliceBound v h' code) f
    | none => Sem.bind (pure 0) f).run P w = (f l).run P w ∧ l ≤ h' := by
 cases lo with
 | none =>
  simp only [optD] at h1
  simp only [loB, Option.some.injEq] at h
  subst h1 h
  exact ⟨by rw [run_bind]; rfl, Nat.zero_le _⟩
 | some v =>
  obtain ⟨V, hV, rfl⟩ := h1
  simp only [loB] at h
  split at h
  ·rename_i n hn
   split at h
   ·rename_i hl
    injection h with h
    subst h
    obtain ⟨k, rfl⟩ := natOf_spec hn
    simp only [den, Option.some.injEq] at hV
    subst hV
    have := Nat.le_of_ble_eq_true hl
    refine ⟨?_, this⟩
    rw [run_bind, run_sliceBound this]
   ·cases h
  ·cases h
theorem run_bounds {len C : Nat} {c : Cap} (hc : capOf ν c = some C) (hlen : len ≤ C) {lo hi mx : Option AV} {LO HI MX : Option Value} (h1 : optD ν lo LO) (h2 : optD ν hi HI) (h3 : optD ν mx MX) {l h : Nat} {m : Option Nat}
  (hb : boundsA len c lo hi mx = some (l, h, m)) (isS : Bool) : (Instr.sliceBounds isS len C LO HI MX).run P w = .ok (l, h, m.getD C) w ∧ l ≤ h ∧ h ≤ m.getD C ∧ m.getD C ≤ C := by
 unfold boundsA at hb
 split at hb
 ·cases hb
 ·rename_i m' e1
  split at hb
  ·cases hb
  ·rename_i h' e2
   split at hb
   ·cases hb
   ·rename_i l' e3
    simp only [Option.some.injEq, Prod.mk.injEq] at hb
    obtain ⟨rfl, rfl, rfl⟩ := hb
    obtain ⟨_, a2, a3⟩ := run_maxB (P := P) (w := w) hc hlen h3 e1 isS (fun _ => (pure () : Sem Unit))
    obtain ⟨_, b2⟩ := run_hiB (P := P) (w := w) hc hlen h2 a2 a3 e2 isS (fun _ => (pure () : Sem Unit))
    obtain ⟨_, c2⟩ := run_loB (P := P) (w := w) h1 e3 .sliceB (fun _ => (pure () : Sem Unit))
    refine ⟨?_, c2, b2, a2⟩
    unfold Instr.sliceBounds
    refine ((run_maxB hc hlen h3 e1 isS _).1).trans ?_
    refine ((run_hiB hc hlen h2 a2 a3 e2 isS _).1).trans ?_
    exact (run_loB h1 e3 _ _).1
theorem selN_beq {a b : Nat} (x y : Nat) : selN (Nat.beq a b) x y = if a = b then x else y := by
 cases h : Nat.beq a b with
 | true => rw [if_pos (Nat.eq_of_beq_eq_true h)]; rfl
 | false => rw [if_neg (Nat.ne_of_beq_eq_false h)]; rfl
theorem add_if (g off m l n : Nat) : (if m = l then (⟨g, off, none⟩ : Addr) else (⟨g, off, none⟩ : Addr).add (l * n)) = ⟨g, if m = l then off else off + l * n, none⟩ := by
 split
 ·rfl
 ·rw [addr_add]
theorem run_slice {t : TypeId} {x v : AV} {X : Value} {lo hi mx : Option AV} {LO HI MX : Option Value} (hx : den ν x = some X) (h1 : optD ν lo LO) (h2 : optD ν hi HI) (h3 : optD ν mx MX) (h : sliceA P t x lo hi mx = some v) :
  ∃ V, den ν v = some V ∧ (Instr.sliceAt t X LO HI MX).run P w = .ok V w := by
 unfold sliceA at h
 split at h
 ·-- a string
  rename_i s hu
  simp only [den, Option.some.injEq] at hx
  subst hx
  cases mx with
  | some m => cases h
  | none =>
   simp only at h
   split at h
   ·rename_i l hh m hb
    injection h with h
    subst h
    obtain ⟨r, _, _, _⟩ := run_bounds (P := P) (w := w) (ν := ν) (C := s.length) (c := .k s.length) rfl (Nat.le_refl _) h1 h2 h3 hb false
    refine ⟨.string ((ByteArray.mk s.toArray).extract l hh), ?_, ?_⟩
    ·simp only [den, Option.some.injEq, Value.string.injEq]
     apply ByteArray.ext
     simp [List.extract_eq_take_drop]
    ·simp only [optD] at h3
     subst h3
     unfold Instr.sliceAt
     show (Sem.bind (underlying t) _).run P w = _
     rw [run_bind, run_underlying hu]
     unfold Instr.slice
     show (Sem.bind (underlying t) _).run P w = _
     rw [run_bind, run_underlying hu]
     simp only [Option.isSome_none, Bool.false_eq_true, if_false]
     show (Sem.bind (Instr.sliceBounds false (ByteArray.mk s.toArray).size (ByteArray.mk s.toArray).size LO HI none) _).run P w = _
     rw [run_bind]
     have e : (ByteArray.mk s.toArray).size = s.length := rfl
     rw [e, r]
     rfl
   ·cases h
 ·-- nil
  rename_i e hu
  simp only [den, Option.some.injEq] at hx
  subst hx
  split at h
  ·rename_i q z hb hz
   obtain ⟨l, hh, m⟩ := q
   injection h with h
   subst h
   obtain ⟨r, i1, i2, i3⟩ := run_bounds (P := P) (w := w) (ν := ν) (C := 0) (c := .k 0) rfl (Nat.le_refl _) h1 h2 h3 hb true
   refine ⟨.slice none 0 0, rfl, ?_⟩
   unfold Instr.sliceAt
   show (Sem.bind (underlying t) _).run P w = _
   rw [run_bind, run_underlying hu]
   unfold Instr.slice
   show (Sem.bind (underlying t) _).run P w = _
   rw [run_bind, run_underlying hu]
   show (Sem.bind (Instr.sliceBounds true 0 0 LO HI MX) _).run P w = _
   rw [run_bind, r]
   show (Sem.bind (sizeOf e) _).run P w = _
   rw [run_bind, run_sizeT hz]
   show Result.ok (Value.slice _ _ _) w = _
   have e1 : m.getD 0 = 0 := by omega
   have e2 : hh = 0 := by omega
   have e3 : l = 0 := by omega
   simp [e1, e2, e3]
  ·cases h
 ·-- a slice
  rename_i e i off len c hu
  obtain ⟨g, C, hg, hC, hlen, rfl⟩ := slice_den hx
  have go : ∀ {l hh : Nat} {m : Option Nat} {z : Nat}, boundsA len c lo hi mx = some (l, hh, m) → sizeT P e = some z →
    (Instr.sliceAt t (.slice (some ⟨g, off, none⟩) len C) LO HI MX).run P w = .ok (.slice (some ⟨g, if m.getD C = l then off else off + l * z, none⟩) (hh - l) (m.getD C - l)) w ∧ l ≤ hh ∧ hh ≤ m.getD C ∧ m.getD C ≤ C := fun {l hh m z} hb hz => by
   obtain ⟨r, i1, i2, i3⟩ := run_bounds (P := P) (w := w) (ν := ν) hC hlen h1 h2 h3 hb true
   refine ⟨?_, i1, i2, i3⟩
   unfold Instr.sliceAt
   show (Sem.bind (underlying t) _).run P w = _
   rw [run_bind, run_underlying hu]
   unfold Instr.slice
   show (Sem.bind (underlying t) _).run P w = _
   rw [run_bind, run_underlying hu]
   show (Sem.bind (Instr.sliceBounds true len C LO HI MX) _).run P w = _
   rw [run_bind, r]
   show (Sem.bind (sizeOf e) _).run P w = _
   rw [run_bind, run_sizeT hz]
   show Result.ok (Value.slice _ _ _) w = _
   simp only [Option.map_some]
   rw [← add_if]
   split <;> rfl
  split at h
  ·rename_i l hh z hb hz
   obtain ⟨r, i1, i2, i3⟩ := go hb hz
   simp only [Option.getD_none] at r i2
   cases c with
   | k n =>
    simp only [capOf, Option.some.injEq] at hC
    subst hC
    simp only [selN_beq, Option.some.injEq] at h
    subst h
    refine ⟨_, ?_, r⟩
    simp only [den, hg, capOf]
    rw [if_pos (by omega)]
   | u c m =>
    simp only [capOf] at hC
    split at hC
    ·rename_i n hn
     split at hC
     ·rename_i hmn
      injection hC with hC
      simp only at h
      split at h
      ·rename_i h0
       have h0 := Nat.eq_of_beq_eq_true h0
       subst h0
       injection h with h
       subst h
       refine ⟨_, ?_, r⟩
       simp only [den, hg, capOf, hn, if_pos hmn]
       rw [if_pos (by omega)]
       simp [hC]
      ·rename_i h0 h1'
       have h1' := Nat.le_of_ble_eq_true h1'
       injection h with h
       subst h
       refine ⟨_, ?_, r⟩
       simp only [den, hg, capOf, hn]
       rw [if_pos (show m + l ≤ n by omega)]
       simp only []
       rw [if_pos (by omega), if_neg (by omega)]
       congr 2
       omega
      ·split at h
       ·rename_i h2
        have h2 := Nat.eq_of_beq_eq_true h2
        injection h with h
        subst h
        refine ⟨_, ?_, r⟩
        simp only [den, hg, capOf, hn, if_pos hmn, hC, h2, Nat.sub_self]
        split
        ·rename_i e
         simp [e]
        ·rfl
       ·cases h
     ·cases hC
    ·cases hC
  ·rename_i l hh m z hb hz
   obtain ⟨r, i1, i2, i3⟩ := go hb hz
   simp only [Option.getD_some] at r i2 i3
   simp only [selN_beq, Option.some.injEq] at h
   subst h
   refine ⟨_, ?_, r⟩
   simp only [den, hg, capOf]
   rw [if_pos (by omega)]
  ·cases h
 ·-- an array
  rename_i n e i off hu
  obtain ⟨g, hg, rfl⟩ := ptr_den hx
  split at h
  ·rename_i l hh m z hb hz
   obtain ⟨r, i1, i2, i3⟩ := run_bounds (P := P) (w := w) (ν := ν) (C := n) (c := .k n) rfl (Nat.le_refl _) h1 h2 h3 hb false
   simp only [selN_beq, Option.some.injEq] at h
   subst h
   refine ⟨.slice (some ⟨g, if m.getD n = l then off else off + l * z, none⟩) (hh - l) (m.getD n - l), ?_, ?_⟩
   ·simp only [den, hg, capOf]
    rw [if_pos (by omega)]
   ·unfold Instr.sliceAt
    show (Sem.bind (underlying t) _).run P w = _
    rw [run_bind, run_underlying hu]
    show (Sem.bind (Instr.sureAddr _) _).run P w = _
    rw [run_bind]
    show (Sem.bind (Instr.sliceBounds false n n LO HI MX) _).run P w = _
    rw [run_bind, r]
    show (Sem.bind (sizeOf e) _).run P w = _
    rw [run_bind, run_sizeT hz]
    show Result.ok (Value.slice _ _ _) w = _
    rw [← add_if]
  ·cases h
 ·cases h
def PRel (ν : Nm) (p : Nat × AV) (q : Nat × Value) : Prop := p.1 = q.1 ∧ den ν p.2 = some q.2
theorem overlay_zip (off : Nat) : ∀ (vs : List Value) (k : Nat) (arr : Array Value), ((vs.zipIdx k).foldl (fun cs p => cs.setIfInBounds (off + p.2) p.1) arr).toList = overlay arr.toList (off + k) vs
 | [], _, _ => rfl
 | v :: vs, k, arr => by
  rw [List.zipIdx_cons, List.foldl_cons, overlay_zip off vs (k + 1)]
  simp [overlay, Nat.add_assoc]
theorem run_fill {pl : Nat → Option (Nat × Nat)} : ∀ {ps : List (Nat × AV)} {qs : List (Nat × Value)} {l r : List AV} {arr : Array Value}, All2 (PRel ν) ps qs → denL ν l = some arr.toList → fillA pl l ps = some r → ∃ arr', Instr.fill pl arr qs = some arr' ∧ denL ν r = some arr'.toList
 | [], [], l, r, arr, _, hl, h => by
  simp only [fillA, Option.some.injEq] at h
  subst h
  exact ⟨arr, rfl, hl⟩
 | (i, v) :: ps, (j, V) :: qs, l, r, arr, hp, hl, h => by
  obtain ⟨⟨e, hv⟩, hp⟩ := hp
  simp only at e hv
  subst e
  unfold fillA at h
  unfold Instr.fill
  cases hpl : pl i with
  | none => rw [hpl] at h; cases h
  | some os =>
   obtain ⟨off, size⟩ := os
   rw [hpl] at h
   simp only at h ⊢
   split at h
   ·rename_i hc
    simp only [Bool.and_eq_true] at hc
    obtain ⟨⟨c1, c2⟩, c3⟩ := hc
    have c1 := Nat.eq_of_beq_eq_true c1
    have c2 := Nat.le_of_ble_eq_true c2
    have hcells := cells_den hv c3
    have hlen : V.cells.size = size := by
     have := denL_len hcells
     simp at this
     omega
    have hll : arr.size = l.length := by have := denL_len hl; simpa using this
    have cond : (decide (V.cells.size ≠ size) || decide (off + V.cells.size > arr.size)) = false := by
     rw [Bool.or_eq_false_iff, decide_eq_false_iff_not, decide_eq_false_iff_not]
     exact ⟨fun hne => hne hlen, by omega⟩
    rw [cond]
    simp only [Bool.false_eq_true, if_false]
    refine run_fill hp ?_ h
    have : (V.cells.zipIdx.foldl (fun cs p => cs.setIfInBounds (off + p.2) p.1) arr).toList = overlay arr.toList off V.cells.toList := by
     rw [← Array.foldl_toList]
     have := overlay_zip off V.cells.toList 0 arr
     simpa using this
    show denL ν _ = some (V.cells.zipIdx.foldl (fun cs p => cs.setIfInBounds (off + p.2) p.1) arr).toList
    rw [this]
    exact denL_over off hl hcells
   ·cases h
 | [], _ :: _, _, _, _, hp, _, _ => hp.elim
 | _ :: _, [], _, _, _, hp, _, _ => hp.elim
theorem run_mapM {α β : Type} {f : α → Option β} {g : α → Sem β} (hg : ∀ x y, f x = some y → (g x).run P w = .ok y w) : ∀ {l : List α} {m : List β}, mapO f l = some m → (l.mapM g).run P w = .ok m w
 | [], m, h => by
  simp only [mapO, Option.some.injEq] at h
  subst h
  rfl
 | x :: l, m, h => by
  simp only [mapO] at h
  split at h
  ·cases h
  ·rename_i y hy
   split at h
   ·cases h
   ·rename_i r hr
    injection h with h
    subst h
    rw [List.mapM_cons]
    show (Sem.bind (g x) _).run P w = _
    rw [run_bind, hg x y hy]
    show (Sem.bind (l.mapM g) _).run P w = _
    rw [run_bind, run_mapM hg hr]
    rfl
theorem run_build {t : TypeId} {ps : List (Nat × AV)} {qs : Array (Nat × Value)} {v : AV} (hp : All2 (PRel ν) ps qs.toList) (h : buildA P t ps = some v) (hz1 : True) : ∃ V, den ν v = some V ∧ (Instr.build t qs).run P w = .ok V w := by
 unfold buildA at h
 split at h
 ·cases h
 ·rename_i z hz
  obtain ⟨Z, hZ, rz⟩ := run_zeroA (P := P) (ν := ν) (w := w) hz
  have hzc : denL ν (cellsA z) = some Z.cells.toList := by
   cases z
   case agg l =>
    obtain ⟨L, hL, rfl⟩ := agg_den hZ
    simpa [cellsA, Value.cells] using hL
   case tup l =>
    obtain ⟨L, hL, rfl⟩ := tup_den hZ
    simp [cellsA, denL, hZ, Value.cells]
   all_goals
    rw [show cellsA _ = [_] from rfl, (one_den rfl hZ).2.2]
    simp [denL, hZ]
  unfold Instr.build
  split at h
  ·rename_i fields hu
   split at h
   ·rename_i pl hpl
    rw [Option.map_eq_some_iff] at h
    obtain ⟨r, hr, rfl⟩ := h
    show ∃ V, _ ∧ (Sem.bind (zeroValue t) _).run P w = _
    rw [run_bind, rz]
    show ∃ V, _ ∧ (Sem.bind (underlying t) _).run P w = _
    rw [run_bind, run_underlying hu]
    show ∃ V, _ ∧ (Sem.bind (fields.mapM fun f => _) _).run P w = _
    have hm : (fields.mapM fun f => (do pure (f.offset, ← sizeOf f.type) : Sem (Nat × Nat))).run P w = .ok pl.toArray w := by
     rw [Array.mapM_eq_mapM_toList, ← bind_pure_comp]
     show (Sem.bind _ _).run P w = _
     rw [run_bind, run_mapM (f := fun f : Field => (sizeT P f.type).map fun n => (f.offset, n)) (fun f y hy => by
      rw [Option.map_eq_some_iff] at hy
      obtain ⟨n, hn, rfl⟩ := hy
      show (Sem.bind (sizeOf f.type) _).run P w = _
      rw [run_bind, run_sizeT hn]
      rfl) hpl]
     rfl
    rw [run_bind, hm]
    simp only []
    obtain ⟨arr', h1, h2⟩ := run_fill (ν := ν) (pl := fun (i : Nat) => pl[i]?) (arr := Z.cells) hp hzc hr
    have e : (fun (i : Nat) => (pl.toArray)[i]?) = fun (i : Nat) => pl[i]? := by funext i; simp
    refine ⟨.agg arr', by simp [den, h2], ?_⟩
    simp only [e, h1]
    rfl
   ·cases h
  ·rename_i n e hu
   split at h
   ·rename_i size hs
    rw [Option.map_eq_some_iff] at h
    obtain ⟨r, hr, rfl⟩ := h
    show ∃ V, _ ∧ (Sem.bind (zeroValue t) _).run P w = _
    rw [run_bind, rz]
    show ∃ V, _ ∧ (Sem.bind (underlying t) _).run P w = _
    rw [run_bind, run_underlying hu]
    show ∃ V, _ ∧ (Sem.bind (sizeOf e) _).run P w = _
    rw [run_bind, run_sizeT hs]
    simp only []
    obtain ⟨arr', h1, h2⟩ := run_fill (ν := ν) (pl := fun i => some (i * size, size)) (arr := Z.cells) hp hzc hr
    refine ⟨.agg arr', by simp [den, h2], ?_⟩
    simp only [h1]
    rfl
   ·cases h
  ·cases h
end
end Go.Proofs.YtcjbpaiomcfgnaaGreatDoor
namespace Go.Proofs.YtcjbpaiomcfgnaaGreatDoor
open Go Go.RowKit
theorem overlay_append : ∀ (vs : List Value) (l r : List Value) (off : Nat), off + vs.length ≤ l.length → overlay (l ++ r) off vs = overlay l off vs ++ r
 | [], l, r, off, _ => rfl
 | v :: vs, l, r, off, h => by
  simp only [List.length_cons] at h
  simp only [overlay]
  rw [List.set_append_left _ _ (by omega), overlay_append vs (l.set off v) r (off + 1) (by simp; omega)]
theorem overlay_len : ∀ (vs : List Value) (l : List Value) (off : Nat), (overlay l off vs).length = l.length
 | [], _, _ => rfl
 | v :: vs, l, off => by rw [overlay, overlay_len vs]; simp
theorem overlay_tail : ∀ (vs : List Value) (l : List Value) (off : Nat), off + vs.length ≤ l.length → overlay l off vs = l.take off ++ vs ++ l.drop (off + vs.length)
 | [], l, off, _ => by simp [overlay]
 | v :: vs, l, off, h => by
  simp only [List.length_cons] at h
  rw [overlay, overlay_tail vs _ _ (by simp; omega)]
  have h1 : (l.set off v).take (off + 1) = l.take off ++ [v] := by
   rw [List.take_set, List.take_add_one, List.getElem?_eq_getElem (by omega)]
   simp only [Option.toList_some]
   rw [List.set_append_right _ _ (by rw [List.length_take]; omega)]
   have : off - (l.take off).length = 0 := by rw [List.length_take]; omega
   rw [this]
   simp
  have h2 : (l.set off v).drop (off + 1 + vs.length) = l.drop (off + (vs.length + 1)) := by
   rw [List.drop_set_of_lt (by omega)]
   congr 1
   omega
  rw [h1, h2]
  simp
theorem setCells_eq (b : Nat) : ∀ (vs : List Value) (w : World) (o : Nat), w.setCells b o vs = putCells w b o vs
 | [], _, _ => rfl
 | _ :: vs, _, o => setCells_eq b vs _ (o + 1)
section
variable {P : Program} {w0 w : World} {A : Anch} {ν : Nm} {s : St}
theorem WRel.raw (h : WRel P w0 A ν s w) {w' : World} {g : Nat} {obj : Obj} (hno : ∀ i o, s.h.get i = some o → ν i ≠ some g) (hfz : ν.z g = none) (h0 : w0.heap.size ≤ g) (hown : A.w.heap.size ≤ g ∨ ∃ j o, A.h.get j = some o ∧ A.ν j = some g) (hw : Upd w g obj w') : WRel P w0 A ν s w' := by
 refine ⟨⟨hw.os.trans h.keep.os, hw.tape.trans h.keep.tape, hw.output.trans h.keep.output, by rw [hw.size]; exact h.keep.size, fun k hk hn => ?_⟩, h.top, fun j o' hj => ?_, h.inj, h.ext, h.anc, fun j o' hj hn => ?_, fun k hk hn => ?_, by rw [hw.size]; exact h.big, h.own, h.ctx, fun k ob hk => ⟨(hw.rest k fun e => by rw [e, hfz] at hk; cases hk).trans (h.frz k ob hk).1, (h.frz k ob hk).2⟩, h.zown, h.dat, h.topx⟩
 ·rw [hw.rest k (by omega)]
  exact h.keep.block k hk hn
 ·obtain ⟨g', obj', h1, h2, h3, h4⟩ := h.objs j o' hj
  exact ⟨g', obj', h1, h2, (hw.rest g' fun e => hno j o' hj (by rw [h1, e])).trans h3, h4⟩
 ·obtain ⟨⟨o2, h1⟩, h2⟩ := h.same j o' hj hn
  exact ⟨⟨o2, h1⟩, fun g' hg' => (hw.rest g' fun e => hno j o2 h1 (by rw [h.ext _ _ hg', e])).trans (h2 g' hg')⟩
 ·refine (hw.rest k ?_).trans (h.far k hk hn)
  rintro rfl
  rcases hown with h1 | ⟨j, o', h1, h2⟩
  ·omega
  ·exact hn j o' h1 h2
def OpOk (P : Program) (w0 : World) (A : Anch) (ν : Nm) (s' : St) (v : AV) (r : Result Value) : Prop := ∃ ν' V w', Nm.le ν ν' ∧ WRel P w0 A ν' s' w' ∧ den ν' v = some V ∧ r = .ok V w'
theorem putCells_rel (h : WRel P w0 A ν s w) {i off g : Nat} {vs : List AV} {VS : List Value} {s' : St} (hs : storeCellsA s i off vs = some s') (hg : ν i = some g) (hv : denL ν vs = some VS) :
  WRel P w0 A ν s' (putCells w g off VS) ∧ (storeCells ⟨g, off, none⟩ VS 0).run P w = .ok () (putCells w g off VS) ∧ (∃ t cs, Blk w g t cs ∧ off + VS.length ≤ cs.size) ∧ VS.all plainCell = true ∧ (∀ u ∈ VS, u.oneCell' = true) := by
 unfold storeCellsA at hs
 split at hs
 ·rename_i l t c hi
  split at hs
  ·rename_i hc
   simp only [Bool.and_eq_true] at hc
   obtain ⟨hc1, hc2⟩ := hc
   have hc1 := Nat.le_of_ble_eq_true hc1
   injection hs with hs
   subst hs
   obtain ⟨L, R, hL, hb, hcap⟩ := h.blk hi hg
   obtain ⟨o1, o2⟩ := denL_one hc2 hv
   have hlen := denL_len hL
   have hvl := denL_len hv
   have hfit : off + VS.length ≤ (L ++ R).length := by simp; omega
   obtain ⟨r1, r2⟩ := run_storeCells (P := P) VS 0 (L ++ R) w off hb (by simpa using hfit) o2
   simp only [Nat.add_zero] at r1 r2
   refine ⟨?_, r1, ⟨t, _, hb, by simpa using hfit⟩, o2, o1⟩
   have hov : overlay (L ++ R) off VS = overlay L off VS ++ R := overlay_append VS L R off (by omega)
   obtain ⟨fz, hfz, hu⟩ := Upd.put hb.lt off VS r2
   refine h.write hi hg ?_ hu (fun x hx => List.mem_cons_of_mem _ hx) (fun _ _ => List.mem_cons_self)
   refine ⟨rfl, hfz, overlay L off VS, R, denL_over off hL hv, by simp [hov], ?_⟩
   cases c with
   | none => exact hcap
   | some c =>
    obtain ⟨cap, inf, h1, h2, h3⟩ := hcap
    exact ⟨cap, inf, h1, h2, by simpa [overlay_len] using h3⟩
  ·cases hs
 ·cases hs
theorem storeA_rel (h : WRel P w0 A ν s w) {t : TypeId} {i off g : Nat} {v : AV} {V : Value} {s' : St} (hs : storeA P s t i off v = some s') (hg : ν i = some g) (hv : den ν v = some V) :
  ∃ w', WRel P w0 A ν s' w' ∧ (storeVar t ⟨g, off, none⟩ V).run P w = .ok () w' := by
 unfold storeA at hs
 split at hs
 ·rename_i n hn
  split at hs
  ·rename_i hl
   have hl := Nat.eq_of_beq_eq_true hl
   have hone : (cellsA v).all oneA = true := by
    unfold storeCellsA at hs
    split at hs
    ·split at hs
     ·rename_i hc
      simp only [Bool.and_eq_true] at hc
      exact hc.2
     ·cases hs
    ·cases hs
   have hc := cells_den hv hone
   obtain ⟨h1, h2, _⟩ := putCells_rel (P := P) h hs hg hc
   refine ⟨_, h1, ?_⟩
   have hsz : V.cells.size = n := by have := denL_len hc; simp at this; omega
   show (Sem.bind (sizeOf t) _).run P w = _
   rw [run_bind, run_sizeT hn]
   simp only [hsz, ne_eq, not_true, if_false]
   exact h2
  ·cases hs
 ·cases hs
theorem slice_cells (h : WRel P w0 A ν s w) {size : Nat} {x : AV} {X : Value} {cs : List AV} (hx : den ν x = some X) (hc : cellsOfSlice s size x = some cs) {n : Nat} (hn : lenS x = some n) (hlen : cs.length = n * size) :
  ∃ CS, denL ν cs = some CS ∧ CS.length = n * size ∧ (∀ w' : World, (Builtin.lenOf X).run P w' = .ok n w') ∧
   (∀ m, m ≤ n → ∀ w' : World, (∀ g, g < w.heap.size → w'.heap[g]? = w.heap[g]?) → (Builtin.firstCells size m X).run P w' = .ok (CS.take (m * size)).toArray w') := by
 cases x <;> simp only [cellsOfSlice, lenS] at hc hn <;> try (cases hc; done)
 case nslice =>
  simp only [den, Option.some.injEq] at hx hc hn
  subst hx hc hn
  refine ⟨[], rfl, by simp, fun _ => rfl, fun m hm w' _ => ?_⟩
  have : m = 0 := by omega
  subst this
  simp [Builtin.firstCells, pure, Sem.run]
 case slice i off len c =>
  obtain ⟨g, C, hg, hC, hle, rfl⟩ := slice_den hx
  injection hn with hn
  subst hn
  split at hc
  ·rename_i l t c' hi
   obtain ⟨L, R, hL, hb, _⟩ := h.blk hi hg
   obtain ⟨h1, h2⟩ := denL_cut hL hc
   refine ⟨_, h1, h2, fun _ => rfl, fun m hm w' hw => ?_⟩
   have hb' : Blk w' g t (L ++ R).toArray := hb.move (hw g hb.lt)
   have hms : m * size ≤ len * size := Nat.mul_le_mul_right _ hm
   refine run_firstCells_some w' size m _ len C _ (by rw [List.length_take, h2]; omega) fun j u hj => ?_
   rw [addr_add, hb'.cell]
   rw [List.getElem?_take] at hj
   split at hj
   ·rename_i hjm
    rw [List.getElem?_take] at hj
    split at hj
    ·rw [List.getElem?_drop] at hj
     simp only [List.getElem?_toArray]
     rw [List.getElem?_append_left (List.getElem?_eq_some_iff.1 hj).1]
     exact hj
    ·cases hj
   ·cases hj
  ·cases hc
 case tail i off o2 len c m0 =>
  simp only [Option.some.injEq] at hc hn
  subst hc hn
  have hX : ∃ a k, X = .slice (some a) 0 k := by
   simp only [den] at hx
   split at hx
   ·split at hx <;> injection hx with hx <;> exact ⟨_, _, hx.symm⟩
   ·cases hx
  obtain ⟨a, k, rfl⟩ := hX
  refine ⟨[], rfl, by simp, fun _ => rfl, fun m hm w' _ => ?_⟩
  have : m = 0 := by omega
  subst this
  have := run_firstCells_some (P := P) w' size 0 a 0 k [] (by simp) (fun j u hj => by simp at hj)
  simpa using this
 case str b =>
  simp only [den, Option.some.injEq] at hx hc hn
  subst hx hc hn
  simp only [List.length_map] at hlen
  have hd : ∀ l : List UInt8, denL ν (l.map fun c => AV.int .u8 c.toNat) = some (l.map fun c => Value.int .u8 c.toNat) := fun l => by
   induction l with
   | nil => rfl
   | cons a l ih => exact denL_mk rfl ih
  refine ⟨_, hd b, by rw [List.length_map]; exact hlen, fun _ => rfl, fun m hm w' _ => ?_⟩
  have e : m * size = m := by
   rcases Nat.eq_zero_or_pos b.length with h0 | h0
   ·have : m = 0 := by omega
    simp [this]
   ·have : size = 1 := by
     have := Nat.eq_of_mul_eq_mul_left h0 (by rw [← hlen]; omega : b.length * size = b.length * 1)
     exact this
    simp [this]
  rw [e]
  simp only [Builtin.firstCells]
  show Result.ok _ w' = _
  congr 1
  apply Array.ext'
  simp [List.extract_eq_take_drop, List.map_take]
theorem src_of (h : WRel P w0 A ν s w) {size : Nat} {tx : TypeId} (hk : srcOk P tx = true) {x : AV} {X : Value} {cs : List AV} (hx : den ν x = some X) (hc : cellsOfSlice s size x = some cs) {n : Nat} (hn : lenS x = some n) (hlen : cs.length = n * size) (hone : cs.all oneA = true) :
  ∃ CS, denL ν cs = some CS ∧ Src P size tx X n CS w := by
 obtain ⟨CS, h1, h2, h3, h4⟩ := slice_cells (P := P) h hx hc hn hlen
 refine ⟨CS, h1, ?_, h3, ?_, ?_, h2, (denL_one hone h1).1⟩
 ·unfold srcOk at hk
  split at hk
  ·rename_i e he
   exact .inl ⟨e, he⟩
  ·rename_i he
   exact .inr he
  ·cases hk
 ·have := h4 n (Nat.le_refl _) w (fun _ _ => rfl)
  rwa [← h2, List.take_length] at this
 ·have := h4 n (Nat.le_refl _) w.drew (fun _ _ => rfl)
  rwa [← h2, List.take_length] at this
theorem fresh_rel (h : WRel P w0 A ν s w) {t tx e : TypeId} {inf : TypeInfo} {z : Value} (ht : P.underlying t = some (.slice e)) (hi : P.info? e = some inf) (hz : inf.zero = some z) (hzs : z.cells.size = inf.size) {base : Option Addr} {sl sc : Nat} {olds : List AV} {OLDS : List Value}
  (ho : denL ν olds = some OLDS) (hol : OLDS.length = sl * inf.size) (hold : (Builtin.firstCells inf.size sl (.slice base sl sc)).run P w.drew = .ok OLDS.toArray w.drew) {Y : Value} {n : Nat} {news : List AV} {NEWS : List Value} (hn : denL ν news = some NEWS) (hs : Src P inf.size tx Y n NEWS w)
  (hg : sc < sl + n) (hm : sl + n ≤ most) (hb : inf.bytes ≤ most) (ty : TypeId) {s1 : St} (hs1 : WRel P w0 A ν s1 w) :
  OpOk P w0 A ν (newN (newO s1 (.cells (olds ++ news) e (some (s1.n + 1))))) (.slice s1.n 0 (sl + n) (.u (s1.n + 1) 0)) ((Builtin.append_ #[t, tx] ty #[.slice base sl sc, Y]).run P w) := by
 have hbytes : (sl + n) * inf.bytes ≤ 140737488355328 := Nat.le_trans (Nat.mul_le_mul hm hb) (by decide)
 have hr := run_append_grow_src (P := P) w t tx ty e inf z ht hi hz base sl sc OLDS hold Y n NEWS hs hg (by unfold most at hm; omega) (growslice_fits hg hbytes)
 have hge := grownCap_ge w (sl + n) sc e
 have hk1 := hs1.top (s1.n + 1) (by omega)
 have hd := (hs1.drew).name (k := s1.n + 1) (n' := s1.n + 2) hk1 (by omega) (by omega) (grownCap w (sl + n) sc e)
 have hk0 : (ν.set (s1.n + 1) (grownCap w (sl + n) sc e)) s1.n = none := by
  simp only [Nm.set]
  rw [if_neg (by omega)]
  exact hs1.top _ (Nat.le_refl _)
 have hle1 := Nm.le_set hk1 (grownCap w (sl + n) sc e)
 have hle2 := Nm.le_set hk0 w.heap.size
 have hcap : (Nm.set (ν.set (s1.n + 1) (grownCap w (sl + n) sc e)) s1.n w.heap.size) (s1.n + 1) = some (grownCap w (sl + n) sc e) := hle2 _ _ (Nm.set_same _ _ _)
 have hw := hd.alloc (k := s1.n) (n' := s1.n + 2) (o := .cells (olds ++ news) e (some (s1.n + 1))) (obj := .cells ((OLDS ++ NEWS).toArray ++ Builtin.zeroCells z.cells (grownCap w (sl + n) sc e - (sl + n))) e (0, 0)) hk0 (by simp) (by omega)
  ⟨rfl, noFz0 _, OLDS ++ NEWS, (Builtin.zeroCells z.cells (grownCap w (sl + n) sc e - (sl + n))).toList, denL_mono hle2 _ _ (denL_mono hle1 _ _ (denL_append ho hn)), by simp, grownCap w (sl + n) sc e, inf, hcap, hi, by
   simp only [Array.size_append, List.size_toArray, List.length_append, size_zeroCells, hol, hs.newsLen, hzs, ← Nat.add_mul]
   congr 1
   omega⟩
 refine ⟨_, .slice (some ⟨w.heap.size, 0, none⟩) (sl + n) (grownCap w (sl + n) sc e), _, hle1.trans hle2, hw, ?_, hr⟩
 simp only [den, capOf, hcap, Nm.set_same]
 rw [if_pos (Nat.zero_le _)]
 simp only [Nat.sub_zero]
 rw [if_pos hge]
theorem appendA_rel (h : WRel P w0 A ν s w) {t tx ty : TypeId} {x y v : AV} {X Y : Value} {s' : St} (ha : appendA P s t tx x y = some (v, s')) (hx : den ν x = some X) (hy : den ν y = some Y) :
  OpOk P w0 A ν s' v ((Builtin.append_ #[t, tx] ty #[X, Y]).run P w) := by
 unfold appendA at ha
 split at ha
 ·rename_i e hk ht
  split at ha
  ·rename_i xl yl inf hxl hyl hi
   simp only at ha
   split at ha
   ·cases ha
   ·rename_i news hnews
    split at ha
    ·cases ha
    ·rename_i hcond
     simp only [Bool.and_eq_true] at hcond
     obtain ⟨⟨⟨⟨⟨c1, c2⟩, c3⟩, c4⟩, c5⟩, c6⟩ := hcond
     have c2 := Nat.le_of_ble_eq_true c2
     have c3 := Nat.le_of_ble_eq_true c3
     have c4 := Nat.le_of_ble_eq_true c4
     have c5 := Nat.eq_of_beq_eq_true c5
     split at c6
     ·rename_i z hz
      have c6 := Nat.eq_of_beq_eq_true c6
      obtain ⟨NEWS, hN, hsrc⟩ := src_of (P := P) h hk hy hnews hyl c5 c1
      cases x <;> (try simp only at ha) <;> try (cases ha; done)
      case nslice =>
       simp only [lenS, Option.some.injEq] at hxl
       subst hxl
       simp only [den, Option.some.injEq] at hx
       subst hx
       split at ha
       ·rename_i h0
        have h0 := Nat.eq_of_beq_eq_true h0
        subst h0
        simp only [Option.some.injEq, Prod.mk.injEq] at ha
        obtain ⟨rfl, rfl⟩ := ha
        have hN0 : NEWS = [] := List.eq_nil_of_length_eq_zero (by have := hsrc.newsLen; simpa using this)
        subst hN0
        exact ⟨ν, _, w, Nm.le.refl _, h, rfl, run_append_nothing w t tx ty e inf ht hi none 0 0 (Nat.le_refl _) Y hsrc⟩
       ·rename_i h0
        have h0 := Nat.ne_of_beq_eq_false h0
        simp only [Nat.zero_add, Option.some.injEq, Prod.mk.injEq] at ha
        obtain ⟨rfl, rfl⟩ := ha
        have := fresh_rel (P := P) h ht hi hz c6 (base := none) (sl := 0) (sc := 0) (olds := []) (OLDS := []) rfl (by simp) (run_firstCells_none _ _ _ _ _) hN hsrc (by omega) (by omega) c3 ty h
        simpa using this
      case slice i off n c =>
       simp only [lenS, Option.some.injEq] at hxl
       subst hxl
       obtain ⟨g, C, hg, hC, hle, rfl⟩ := slice_den hx
       cases c with
       | k C' =>
        simp only [capOf, Option.some.injEq] at hC
        subst hC
        simp only at ha
        split at ha
        ·rename_i hfit
         have hfit := Nat.le_of_ble_eq_true hfit
         split at ha
         ·rename_i s2 hst
          simp only [Option.some.injEq, Prod.mk.injEq] at ha
          obtain ⟨rfl, rfl⟩ := ha
          obtain ⟨r1, r2, ⟨t', cs, hb, hsz⟩, r4, r5⟩ := putCells_rel (P := P) h hst hg hN
          have hr := run_append_room_src (P := P) w t tx ty e inf ht hi g off n C' Y yl NEWS hsrc hfit (fun j hj => by rw [hb.cell]; simp; omega) (fun j hj => hb.frozen _ (by omega))
          rw [setCells_eq] at hr
          refine ⟨ν, _, _, Nm.le.refl _, r1, ?_, hr⟩
          simp only [den, hg, capOf]
          rw [if_pos hfit]
         ·cases ha
        ·rename_i hfit
         have hfit : ¬ n + yl ≤ C' := fun hle => by rw [Nat.ble_eq_true_of_le hle] at hfit; cases hfit
         split at ha
         ·rename_i olds holds
          simp only [Option.some.injEq, Prod.mk.injEq] at ha
          obtain ⟨rfl, rfl⟩ := ha
          have hol : olds.length = n * inf.size := by
           simp only [cellsOfSlice] at holds
           split at holds
           ·exact (cutL_spec holds).2
           ·cases holds
          obtain ⟨OLDS, o1, o2, _, o4⟩ := slice_cells (P := P) h hx holds (n := n) rfl hol
          have o5 := o4 n (Nat.le_refl _) w.drew (fun _ _ => rfl)
          rw [← o2, List.take_length] at o5
          exact fresh_rel (P := P) h ht hi hz c6 o1 o2 o5 hN hsrc (by omega) c2 c3 ty h
         ·cases ha
       | u c m =>
        simp only at ha
        split at ha
        ·rename_i h0
         have h0 := Nat.eq_of_beq_eq_true h0
         subst h0
         simp only [Option.some.injEq, Prod.mk.injEq] at ha
         obtain ⟨rfl, rfl⟩ := ha
         have hN0 : NEWS = [] := List.eq_nil_of_length_eq_zero (by have := hsrc.newsLen; simpa using this)
         subst hN0
         exact ⟨ν, _, w, Nm.le.refl _, h, hx, run_append_nothing w t tx ty e inf ht hi _ n C hle Y hsrc⟩
        ·rename_i h0
         have h0 := Nat.ne_of_beq_eq_false h0
         split at ha
         ·rename_i l t' c' hbm hobj
          simp only [Bool.and_eq_true] at hbm
          have hoff := Nat.eq_of_beq_eq_true hbm.1
          have hm0 := Nat.eq_of_beq_eq_true hbm.2
          subst hoff hm0
          split at ha
          ·rename_i olds hcc hcut
           simp only [Bool.and_eq_true] at hcc
           have hcc1 := Nat.eq_of_beq_eq_true hcc.1
           have hcc2 := Nat.eq_of_beq_eq_true hcc.2
           subst hcc1 hcc2
           simp only [Option.some.injEq, Prod.mk.injEq] at ha
           obtain ⟨rfl, rfl⟩ := ha
           obtain ⟨L, R, hL, hb, hcap⟩ := h.blk hobj hg
           obtain ⟨o1, o2⟩ := denL_cut hL hcut
           simp only [List.drop_zero] at o1 o2
           obtain ⟨cap, inf', hcn, hinf', hsz⟩ := hcap
           simp only [capOf, hcn] at hC
           rw [if_pos (Nat.zero_le _)] at hC
           simp only [Nat.sub_zero, Option.some.injEq] at hC
           subst hC
           have hkill := h.kill i
           have holdrun : ∀ w' : World, w'.heap[g]? = w.heap[g]? → (Builtin.firstCells inf.size n (.slice (some ⟨g, 0, none⟩) n cap)).run P w' = .ok (L.take (n * inf.size)).toArray w' := fun w' hw' => by
            refine run_firstCells_some w' inf.size n _ n cap _ o2 fun j u hj => ?_
            have hb' : Blk w' g t' (L ++ R).toArray := hb.move hw'
            rw [addr_add, hb'.cell]
            rw [List.getElem?_take] at hj
            split at hj
            ·simp only [Nat.zero_add, List.getElem?_toArray]
             rw [List.getElem?_append_left (List.getElem?_eq_some_iff.1 hj).1]
             exact hj
            ·cases hj
           by_cases hfit : n + yl ≤ cap
           ·-- in place
            rw [hi] at hinf'
            injection hinf' with hinf'
            subst hinf'
            have hroom : n * inf.size + NEWS.length ≤ (L ++ R).length := by rw [hsz, hsrc.newsLen, ← Nat.add_mul]; exact Nat.mul_le_mul_right _ hfit
            have hr := run_append_room_src (P := P) w t tx ty t' inf ht hi g 0 n cap Y yl NEWS hsrc hfit (fun j hj => by rw [hb.cell]; simp only [Nat.zero_add]; rw [Option.isSome_iff_exists]; exact ⟨_, by rw [List.getElem?_toArray]; exact List.getElem?_eq_getElem (by omega)⟩) (fun j hj => hb.frozen _ (by simp only [Nat.zero_add, List.size_toArray]; omega))
            rw [setCells_eq] at hr
            simp only [Nat.zero_add] at hr
            have hone := denL_one c1 hN
            obtain ⟨_, hblk⟩ := run_storeCells (P := P) NEWS 0 (L ++ R) w (n * inf.size) hb (by simpa using hroom) hone.2
            simp only [Nat.add_zero] at hblk
            have hgs : w0.heap.size ≤ g := by
             obtain ⟨g', obj, q1, q2, _⟩ := h.objs i _ hobj
             rw [hg] at q1
             injection q1 with q1
             subst q1
             exact q2
            have hno : ∀ j o, (killO s i).h.get j = some o → ν j ≠ some g := fun j o hj e => by
             simp only [killO] at hj
             rw [Tr.get_put] at hj
             split at hj
             ·cases hj
             ·rename_i hne
              exact hne (h.inj j i o _ hj hobj (by rw [e, hg]))
            obtain ⟨fz, hfz, hupd⟩ := Upd.put hb.lt (n * inf.size) NEWS hblk
            have hraw := hkill.raw hno (h.nofrz hobj hg) hgs (h.own i _ hobj g hg) hupd
            have hk1 := hkill.top ((killO s i).n + 1) (by omega)
            have hd := hraw.name (k := (killO s i).n + 1) (n' := (killO s i).n + 2) hk1 (by omega) (by omega) cap
            have hk0 : (ν.set ((killO s i).n + 1) cap) (killO s i).n = none := by
             simp only [Nm.set]
             rw [if_neg (by omega)]
             exact hkill.top _ (Nat.le_refl _)
            have hle1 := Nm.le_set hk1 cap
            have hle2 := Nm.le_set hk0 g
            have hcap' : (Nm.set (ν.set ((killO s i).n + 1) cap) (killO s i).n g) ((killO s i).n + 1) = some cap := hle2 _ _ (Nm.set_same _ _ _)
            have htl : overlay (L ++ R) (n * inf.size) NEWS = (L.take (n * inf.size) ++ NEWS) ++ (L ++ R).drop (n * inf.size + NEWS.length) := by
             rw [overlay_tail _ _ _ hroom, List.take_append_of_le_length (by rw [← o2, List.length_take]; omega)]
            have hw := hd.adopt (k := (killO s i).n) (n' := (killO s i).n + 2) (g := g) (o := .cells (olds ++ news) t' (some ((killO s i).n + 1))) hk0 (by simp) (by omega) hupd.here hgs (fun j o hj e => by
              have hj' : (killO s i).h.get j = some o := hj
              have : j ≠ (killO s i).n + 1 := fun e' => hkill.named hk1 o (e' ▸ hj')
              simp only [Nm.set] at e
              rw [if_neg this] at e
              exact hno j o hj' e) (h.nofrz hobj hg) (h.own i _ hobj g hg)
             ⟨rfl, hfz, L.take (n * inf.size) ++ NEWS, (L ++ R).drop (n * inf.size + NEWS.length), denL_mono hle2 _ _ (denL_mono hle1 _ _ (denL_append o1 hN)), by simp only [htl], cap, inf, hcap', hi, by
              simp only [List.size_toArray, overlay_len]
              exact hsz⟩
            refine ⟨_, .slice (some ⟨g, 0, none⟩) (n + yl) cap, _, hle1.trans hle2, hw, ?_, hr⟩
            simp only [den, capOf, hcap', Nm.set_same]
            rw [if_pos (Nat.zero_le _)]
            simp only [Nat.sub_zero]
            rw [if_pos hfit]
           ·exact fresh_rel (P := P) h ht hi hz c6 o1 o2 (holdrun w.drew rfl) hN hsrc (by omega) c2 c3 ty hkill
          ·cases ha
         ·cases ha
     ·cases c6
  ·cases ha
 ·cases ha
end
end Go.Proofs.YtcjbpaiomcfgnaaGreatDoor
namespace Go.Proofs.YtcjbpaiomcfgnaaGreatDoor
open Go Go.RowKit
section
variable {P : Program} {w0 w : World} {A : Anch} {ν : Nm} {s : St}
theorem copyA_rel (h : WRel P w0 A ν s w) {t tx ty : TypeId} {x y v : AV} {X Y : Value} {s' : St} (ha : copyA P s t x y = some (v, s')) (hx : den ν x = some X) (hy : den ν y = some Y) :
  OpOk P w0 A ν s' v ((Builtin.copy_ #[t, tx] ty #[X, Y]).run P w) := by
 unfold copyA at ha
 split at ha
 ·rename_i e ht
  split at ha
  ·rename_i size xl yl hs hxl hyl
   simp only at ha
   split at ha
   ·cases ha
   ·rename_i cs hcs
    split at ha
    ·cases ha
    ·rename_i hlen
     have hlen := Nat.eq_of_beq_eq_true hlen
     obtain ⟨CS, c1, c2, c3, c4⟩ := slice_cells (P := P) h hy hcs hyl hlen
     have hmin : selN (Nat.ble yl xl) yl xl = Nat.min yl xl := by
      cases hb : Nat.ble yl xl with
      | true => exact (Nat.min_eq_left (Nat.le_of_ble_eq_true hb)).symm
      | false => exact (Nat.min_eq_right (by rcases Nat.le_total yl xl with h1 | h1; rw [Nat.ble_eq_true_of_le h1] at hb; cases hb; exact h1)).symm
     rw [hmin] at ha
     have run_ : ∀ (base : Option Addr) (cap : Nat) (k : Unit → World → Result Value), (Builtin.copy_ #[t, tx] ty #[.slice base xl cap, Y]).run P w =
       (match base with
        | some a => ((storeCells a (CS.take (Nat.min yl xl * size)) 0).bind fun _ => pure (goInt (Nat.min yl xl))).run P w
        | none => .ok (goInt (Nat.min yl xl)) w) := fun base cap _ => by
      unfold Builtin.copy_
      simp only [List.getElem?_toArray, List.getElem?_cons_zero, List.getElem?_cons_succ]
      show (Sem.bind (underlying t) _).run P w = _
      rw [run_bind, run_underlying ht]
      simp only []
      show (Sem.bind (Builtin.lenOf Y) _).run P w = _
      rw [run_bind, c3 w]
      show (Sem.bind (sizeOf e) _).run P w = _
      rw [run_bind, run_sizeT hs]
      show (Sem.bind (Builtin.firstCells size (Nat.min yl xl) Y) _).run P w = _
      rw [run_bind, c4 (Nat.min yl xl) (Nat.min_le_left _ _) w (fun _ _ => rfl)]
      cases base <;> rfl
     cases x <;> (try simp only at ha) <;> try (cases ha; done)
     case nslice =>
      simp only [lenS, Option.some.injEq] at hxl
      subst hxl
      simp only [den, Option.some.injEq, Prod.mk.injEq] at hx ha
      subst hx
      obtain ⟨rfl, rfl⟩ := ha
      refine ⟨ν, _, w, Nm.le.refl _, h, ?_, run_ none 0 (fun _ w => .ok undef w)⟩
      simp [den, i64, goInt]
     case slice i off n c =>
      simp only [lenS, Option.some.injEq] at hxl
      subst hxl
      obtain ⟨g, C, hg, hC, hle, rfl⟩ := slice_den hx
      split at ha
      ·rename_i s2 hst
       simp only [Option.some.injEq, Prod.mk.injEq] at ha
       obtain ⟨rfl, rfl⟩ := ha
       obtain ⟨r1, r2, _⟩ := putCells_rel (P := P) h hst hg (denL_take _ c1)
       refine ⟨ν, _, _, Nm.le.refl _, r1, rfl, ?_⟩
       rw [run_ (some ⟨g, off, none⟩) C (fun _ w => .ok undef w)]
       simp only []
       rw [run_bind, r2]
       rfl
      ·cases ha
  ·cases ha
 ·cases ha
theorem run_check1 {b : Bool} {n : Nat} {t : TypeId} {d : TypeDesc} (hu : P.underlying t = some d) (hd : flatKind d = true) (V : Value) : (Instr.checkKey b (n + 1) t V).run P w = .ok () w := by
 rw [Instr.checkKey]
 show (Sem.bind (underlying t) _).run P w = _
 rw [run_bind, run_underlying hu]
 cases d <;> first | (cases hd; done) | rfl
theorem run_checkFields {b : Bool} {n : Nat} {CS : List Value} {l : List AV} (hl : denL ν l = some CS) : ∀ (fs : List Field) (i : Nat), flatFields P fs i = true → fitsFields P fs (l.drop i) = true →
  (forIn fs PUnit.unit fun f (_ : PUnit) => if f.name ≠ "_" then (part f.type CS.toArray f.offset).bind fun x => (Instr.checkKey b (n + 1) f.type x).bind fun _ => (pure (ForInStep.yield PUnit.unit) : Sem _) else pure (ForInStep.yield PUnit.unit)).run P w = .ok PUnit.unit w
 | [], i, _, _ => rfl
 | f :: fs, i, h1, h2 => by
  unfold flatFields at h1
  simp only [Bool.and_eq_true] at h1
  obtain ⟨⟨⟨a1, a2⟩, a3⟩, a4⟩ := h1
  have a1 := Nat.eq_of_beq_eq_true a1
  have hne : f.name ≠ "_" := by simpa using a2
  rw [List.forIn_cons]
  show (Sem.bind _ _).run P w = _
  rw [run_bind, if_pos hne]
  split at a3
  ·rename_i d hd
   cases hdrop : l.drop i with
   | nil => rw [hdrop] at h2; simp [fitsFields] at h2
   | cons v vs =>
    rw [hdrop] at h2
    simp only [fitsFields, Bool.and_eq_true] at h2
    have hli : l[i]? = some v := by
     have : (l.drop i)[0]? = some v := by rw [hdrop]; rfl
     simpa using this
    have hag : isAggT P f.type = some false := by unfold isAggT; rw [hd]; cases d <;> first | rfl | cases a3
    have hp : partA P f.type l f.offset = some v := by unfold partA; rw [hag]; simp only; rw [a1]; exact hli
    obtain ⟨V, _, r⟩ := run_part (P := P) (w := w) hl hp
    rw [run_bind, r]
    simp only []
    rw [run_bind, run_check1 hd a3]
    simp only []
    have hdr : l.drop (i + 1) = vs := by rw [← List.drop_drop, hdrop]; rfl
    exact run_checkFields hl fs (i + 1) a4 (by rw [hdr]; exact h2.2)
  ·cases a3
theorem flatPart {e : TypeId} {d : TypeDesc} (hd : P.underlying e = some d) (hf : flatKind d = true) (l : List AV) (i : Nat) : partA P e l i = l[i]? := by
 have hag : isAggT P e = some false := by unfold isAggT; rw [hd]; cases d <;> first | rfl | cases hf
 unfold partA
 rw [hag]
theorem run_checkElems {b : Bool} {n : Nat} {e : TypeId} {d : TypeDesc} {inf : TypeInfo} (hd : P.underlying e = some d) (hf : flatKind d = true) (hi : P.info? e = some inf) (h1 : inf.size = 1) {CS : List Value} {l : List AV} (hl : denL ν l = some CS) : ∀ (m i : Nat), i + m ≤ l.length →
  (forIn (List.range' i m) PUnit.unit fun i (_ : PUnit) => (sizeOf e).bind fun s => (part e CS.toArray (i * s)).bind fun x => (Instr.checkKey b (n + 1) e x).bind fun _ => (pure (ForInStep.yield PUnit.unit) : Sem _)).run P w = .ok PUnit.unit w
 | 0, i, _ => rfl
 | m + 1, i, h => by
  rw [List.range'_succ, List.forIn_cons]
  show (Sem.bind _ _).run P w = _
  rw [run_bind, run_bind, run_sizeOf hi]
  simp only [h1, Nat.mul_one]
  have hp : partA P e l i = some l[i] := by rw [flatPart hd hf]; exact List.getElem?_eq_getElem (by omega)
  obtain ⟨V, _, r⟩ := run_part (P := P) (w := w) hl hp
  rw [run_bind, r]
  simp only []
  rw [run_bind, run_check1 hd hf]
  simp only []
  exact run_checkElems (b := b) (n := n) hd hf hi h1 hl m (i + 1) (by omega)
theorem run_checkKey {b : Bool} {n : Nat} {t : TypeId} {k : AV} {K : Value} (hf : (flatT P t && keyOk P t k) = true) (hk : den ν k = some K) : (Instr.checkKey b (n + 2) t K).run P w = .ok () w := by
 simp only [Bool.and_eq_true] at hf
 obtain ⟨h1, h2⟩ := hf
 unfold flatT at h1
 unfold keyOk at h2
 split at h1
 ·rename_i fields hu
  simp only [Bool.and_eq_true] at h1
  rw [hu] at h2
  cases k with
  | agg l =>
   simp only at h2
   obtain ⟨CS, hl, rfl⟩ := agg_den hk
   rw [Instr.checkKey]
   show (Sem.bind (underlying t) _).run P w = _
   rw [run_bind, run_underlying hu]
   show (Sem.bind (forIn fields PUnit.unit _ : Sem _) _).run P w = _
   rw [run_bind, ← Array.forIn_toList]
   have := run_checkFields (P := P) (w := w) (n := n) (b := b) hl fields.toList 0 h1.2 (by simpa using h2)
   simp only [bind] at this ⊢
   rw [this]
   rfl
  | _ => simp [fitsKind] at h2
 ·rename_i m e hu
  simp only [Bool.and_eq_true] at h1
  rw [hu] at h2
  cases k with
  | agg l =>
   simp only [Bool.and_eq_true] at h2
   obtain ⟨h1a, h1b⟩ := h1
   split at h1a
   ·rename_i s hs
    have h1a := Nat.eq_of_beq_eq_true h1a
    obtain ⟨inf, hi, rfl⟩ := sizeT_spec hs
    split at h1b
    ·rename_i d hd
     obtain ⟨CS, hl, rfl⟩ := agg_den hk
     rw [Instr.checkKey]
     show (Sem.bind (underlying t) _).run P w = _
     rw [run_bind, run_underlying hu]
     show (Sem.bind (forIn [0:m] PUnit.unit _ : Sem _) _).run P w = _
     rw [run_bind, Std.Legacy.Range.forIn_eq_forIn_range']
     have := run_checkElems (P := P) (w := w) (n := n) (b := b) hd h1b hi h1a hl m 0 (by rw [Nat.eq_of_beq_eq_true h2.1]; omega)
     simp only [bind] at this ⊢
     have e : Std.Legacy.Range.size [0:m] = m := by simp [Std.Legacy.Range.size]
     rw [e]
     rw [this]
     rfl
    ·cases h1b
   ·cases h1a
  | _ => simp [fitsKind] at h2
 ·rename_i d hd hna hns
  exact run_check1 hns h1 K
 ·cases h1
theorem sameBitsA_spec {d : TypeDesc} {x y : AV} (hx : fitsKind d x = true) (hy : fitsKind d y = true) {b : Bool} (hb : sameBitsA x y = b) (n : Nat) : ∀ {t : TypeId}, P.underlying t = some d → eqA P (n + 1) t x y = some b := fun {t} hu => by
 subst hb
 cases d <;> cases x <;> first | (cases hx; done) | skip
 all_goals cases y <;> first | (cases hy; done) | skip
 ·simp [eqA, hu, sameBitsA]
 ·rename_i k k1 a k2 c
  have h1 := kindEq_spec hx
  have h2 := kindEq_spec hy
  subst h1 h2
  simp only [eqA, hu, sameBitsA]
  have : kindEq k k = true := by cases k <;> rfl
  simp [this]
 ·simp [eqA, hu, sameBitsA]
theorem eqFields_flat {n : Nat} {l m : List AV} : ∀ (fs : List Field) (i : Nat), flatFields P fs i = true → fitsFields P fs (l.drop i) = true → fitsFields P fs (m.drop i) = true → eqFieldsA P (eqA P (n + 1)) l m fs = some (sameBitsL (l.drop i) (m.drop i))
  | [], i, _, h2, h3 => by
    have e1 : l.drop i = [] := by cases hl : l.drop i with | nil => rfl | cons v vs => rw [hl] at h2; simp [fitsFields] at h2
    have e2 : m.drop i = [] := by cases hl : m.drop i with | nil => rfl | cons v vs => rw [hl] at h3; simp [fitsFields] at h3
    rw [e1, e2]
    rfl
  | f :: fs, i, h1, h2, h3 => by
    unfold flatFields at h1
    simp only [Bool.and_eq_true] at h1
    obtain ⟨⟨⟨a1, a2⟩, a3⟩, a4⟩ := h1
    have a1 := Nat.eq_of_beq_eq_true a1
    split at a3
    · rename_i d hd
      cases hl : l.drop i with
      | nil => rw [hl] at h2; simp [fitsFields] at h2
      | cons v vs =>
        cases hm : m.drop i with
        | nil => rw [hm] at h3; simp [fitsFields] at h3
        | cons u us =>
          rw [hl] at h2
          rw [hm] at h3
          simp only [fitsFields, Bool.and_eq_true, hd] at h2 h3
          have hli : l[i]? = some v := by have : (l.drop i)[0]? = some v := by rw [hl]; rfl
                                          simpa using this
          have hmi : m[i]? = some u := by have : (m.drop i)[0]? = some u := by rw [hm]; rfl
                                          simpa using this
          have hag : isAggT P f.type = some false := by unfold isAggT; rw [hd]; cases d <;> first | rfl | cases a3
          have hp1 : partA P f.type l f.offset = some v := by unfold partA; rw [hag]; simp only; rw [a1]; exact hli
          have hp2 : partA P f.type m f.offset = some u := by unfold partA; rw [hag]; simp only; rw [a1]; exact hmi
          have hv := sameBitsA_spec (P := P) h2.1 h3.1 rfl n hd
          have ih := eqFields_flat (n := n) fs (i + 1) a4 (by rw [← List.drop_drop, hl]; exact h2.2) (by rw [← List.drop_drop, hm]; exact h3.2)
          rw [← List.drop_drop, hl, ← List.drop_drop, hm] at ih
          unfold eqFieldsA
          have hn : (f.name == "_") = false := by simpa using a2
          rw [hn]
          simp only [hp1, hp2, hv, sameBitsL]
          cases sameBitsA v u with
          | true => exact ih
          | false => rfl
    · cases a3
theorem eqElems_flat {e : TypeId} {d : TypeDesc} (hd : P.underlying e = some d) (hf : flatKind d = true) (l m : List AV) : ∀ (n i : Nat), i + n = l.length → i + n = m.length → l.all (fitsKind d) = true → m.all (fitsKind d) = true →
  eqElemsA P (eqA P 1 e) e 1 l m n i = some (sameBitsL (l.drop i) (m.drop i))
 | 0, i, h1, h2, _, _ => by
  rw [List.drop_eq_nil_of_le (by omega), List.drop_eq_nil_of_le (by omega)]
  rfl
 | n + 1, i, h1, h2, h3, h4 => by
  have hi1 : i < l.length := by omega
  have hi2 : i < m.length := by omega
  unfold eqElemsA
  simp only [Nat.mul_one, flatPart hd hf, List.getElem?_eq_getElem hi1, List.getElem?_eq_getElem hi2]
  have e1 := List.all_eq_true.1 h3 l[i] (List.getElem_mem hi1)
  have e2 := List.all_eq_true.1 h4 m[i] (List.getElem_mem hi2)
  rw [sameBitsA_spec (P := P) e1 e2 rfl 0 hd, List.drop_eq_getElem_cons hi1, List.drop_eq_getElem_cons hi2]
  simp only [sameBitsL]
  cases sameBitsA l[i] m[i] with
  | true => exact eqElems_flat hd hf l m n (i + 1) (by omega) (by omega) h3 h4
  | false => rfl
theorem keyEq_eqA {t : TypeId} {k k' : AV} (hf : (flatT P t && keyOk P t k) = true) (hk' : keyOk P t k' = true) {b : Bool} (h : keyEq k k' = some b) : eqA P 2 t k k' = some b := by
 simp only [Bool.and_eq_true] at hf
 obtain ⟨h1, h2⟩ := hf
 unfold flatT at h1
 unfold keyOk at h2 hk'
 split at h1
 ·rename_i fields hu
  simp only [Bool.and_eq_true, Bool.not_eq_true'] at h1
  rw [hu] at h2 hk'
  cases k with
  | agg l =>
   cases k' with
   | agg m =>
    simp only at h2 hk'
    simp only [keyEq, Option.some.injEq] at h
    subst h
    unfold eqA
    simp only [hu, h1.1]
    have := eqFields_flat (P := P) (n := 0) (l := l) (m := m) fields.toList 0 h1.2 (by simpa using h2) (by simpa using hk')
    simpa using this
   | _ => simp [fitsKind] at hk'
  | _ => simp [fitsKind] at h2
 ·rename_i m e hu
  simp only [Bool.and_eq_true] at h1
  rw [hu] at h2 hk'
  cases k with
  | agg l =>
   cases k' with
   | agg l' =>
    simp only [Bool.and_eq_true] at h2 hk'
    simp only [keyEq, Option.some.injEq] at h
    subst h
    obtain ⟨h1a, h1b⟩ := h1
    split at h1a
    ·rename_i s hs
     have h1a := Nat.eq_of_beq_eq_true h1a
     subst h1a
     split at h1b
     ·rename_i d hd
      rw [hd] at h2 hk'
      unfold eqA
      simp only [hu, hs]
      have := eqElems_flat (P := P) hd h1b l l' m 0 (by rw [Nat.eq_of_beq_eq_true h2.1]; omega) (by rw [Nat.eq_of_beq_eq_true hk'.1]; omega) h2.2 hk'.2
      rw [this]
      simp
     ·cases h1b
    ·cases h1a
   | _ => simp [fitsKind] at hk'
  | _ => simp [fitsKind] at h2
 ·rename_i d hd hna hns
  rw [hns] at h2 hk'
  have e2 : fitsKind d k = true := by
   cases d <;> first | (cases h1; done) | exact h2
  have e3 : fitsKind d k' = true := by
   cases d <;> first | (cases h1; done) | exact hk'
  refine sameBitsA_spec (P := P) e2 e3 ?_ 1 hns
  cases d <;> cases k <;> first | (cases e2; done) | skip
  all_goals cases k' <;> first | (cases e3; done) | skip
  ·simp only [keyEq, Option.some.injEq] at h; exact h
  ·rename_i kk k1 a k2 c
   have q1 := kindEq_spec e2
   have q2 := kindEq_spec e3
   subst q1 q2
   have : kindEq kk kk = true := by cases kk <;> rfl
   simp only [keyEq, this, Option.some.injEq] at h
   simp only [sameBitsA, this, Bool.true_and]
   exact h
  ·simp only [keyEq, Option.some.injEq] at h; exact h
 ·cases h1
theorem sameBitsL_spec : ∀ {l m : List AV} {L M : List Value}, sameBitsL l m = true → denL ν l = some L → denL ν m = some M → L = M
 | [], [], L, M, _, h1, h2 => by rw [denL_nil h1, denL_nil h2]
 | a :: x, b :: y, _, _, h, h1, h2 => by
  obtain ⟨V, R, v1, v2, rfl⟩ := denL_cons h1
  obtain ⟨U, S, u1, u2, rfl⟩ := denL_cons h2
  simp only [sameBitsL] at h
  split at h
  ·rename_i hs
   rw [sameBitsL_spec h v2 u2]
   congr 1
   cases a <;> cases b <;> simp only [sameBitsA] at hs <;> try (cases hs; done)
   ·simp only [den, Option.some.injEq] at v1 u1
    subst v1 u1
    simpa using hs
   ·simp only [Bool.and_eq_true, intEq_spec] at hs
    have := kindEq_spec hs.1
    simp only [den, Option.some.injEq] at v1 u1
    subst v1 u1 this
    simpa using hs.2
   ·simp only [den, Option.some.injEq] at v1 u1
    subst v1 u1
    rw [bytesEq_spec] at hs
    simpa using hs
  ·cases h
 | [], _ :: _, _, _, h, _, _ => by simp [sameBitsL] at h
 | _ :: _, [], _, _, h, _, _ => by simp [sameBitsL] at h
theorem keyEq_same {k k' : AV} {K K' : Value} (h : keyEq k k' = some true) (hk : den ν k = some K) (hk' : den ν k' = some K') : K' = K := by
 cases k <;> cases k' <;> simp only [keyEq] at h <;> try (cases h; done)
 ·simp only [Option.some.injEq, den] at h hk hk'
  subst hk hk'
  simp at h ⊢
  exact h.symm
 ·split at h
  ·rename_i hq
   have := kindEq_spec hq
   simp only [Option.some.injEq, den, intEq_spec] at h hk hk'
   subst hk hk' this
   simp at h ⊢
   exact h.symm
  ·cases h
 ·simp only [Option.some.injEq, den, bytesEq_spec] at h hk hk'
  subst hk hk'
  simp at h ⊢
  exact h.symm
 ·obtain ⟨L, hL, rfl⟩ := agg_den hk
  obtain ⟨M, hM, rfl⟩ := agg_den hk'
  simp only [Option.some.injEq] at h
  rw [sameBitsL_spec h hL hM]
def flatV : Value → Bool
 | .agg cs => cs.toList.all fun c => match c with | .bool _ => true | .int _ _ => true | .string _ => true | _ => false
 | .bool _ => true
 | .int _ _ => true
 | .string _ => true
 | _ => false
theorem sameBits_self {V : Value} (h : flatV V = true) : Instr.sameBits 10000 V V = true := by
 have one : ∀ (n : Nat) (c : Value), (match c with | .bool _ => true | .int _ _ => true | .string _ => true | _ => false) = true → Instr.sameBits n c c = true := fun n c hc => by
  cases c <;> first | (cases hc; done) | skip
  ·cases n <;> simp [Instr.sameBits]
  ·cases n <;> simp [Instr.sameBits]
  ·rename_i b
   have : (b == b) = true := by show (b.data == b.data) = true; simp
   cases n <;> simp [Instr.sameBits, this]
 cases V <;> first | (cases h; done) | exact one _ _ rfl | skip
 rename_i cs
 show Instr.sameBits (9999 + 1) _ _ = true
 unfold Instr.sameBits
 simp only [beq_self_eq_true, Bool.true_and, List.all_eq_true]
 rintro ⟨x, y⟩ hm
 have hxy : x = y := by
  obtain ⟨i, hi⟩ := List.getElem?_of_mem hm
  rw [List.getElem?_zip_eq_some] at hi
  have := hi.1.symm.trans hi.2
  injection this
 subst hxy
 have hx : x ∈ cs.toList := (List.of_mem_zip hm).1
 simp only [flatV, List.all_eq_true] at h
 exact one _ _ (h x hx)
theorem keyEq_flat {k k' : AV} {K : Value} (h : keyEq k k' = some true) (hk : den ν k = some K) : flatV K = true := by
 cases k <;> cases k' <;> simp only [keyEq] at h <;> try (cases h; done)
 ·simp only [den, Option.some.injEq] at hk; subst hk; rfl
 ·simp only [den, Option.some.injEq] at hk; subst hk; rfl
 ·simp only [den, Option.some.injEq] at hk; subst hk; rfl
 ·rename_i l m
  obtain ⟨L, hL, rfl⟩ := agg_den hk
  simp only [Option.some.injEq] at h
  have : ∀ (l m : List AV) (L : List Value), sameBitsL l m = true → denL ν l = some L → (L.all fun c => match c with | .bool _ => true | .int _ _ => true | .string _ => true | _ => false) = true := by
   intro l
   induction l with
   | nil => intro m L _ hL; rw [denL_nil hL]; rfl
   | cons a x ih =>
    intro m L hs hL
    obtain ⟨V, R, v1, v2, rfl⟩ := denL_cons hL
    cases m with
    | nil => simp [sameBitsL] at hs
    | cons b y =>
     simp only [sameBitsL] at hs
     split at hs
     ·rename_i hq
      simp only [List.all_cons, Bool.and_eq_true]
      refine ⟨?_, ih y R hs v2⟩
      cases a <;> cases b <;> simp only [sameBitsA] at hq <;> try (cases hq; done)
      all_goals simp only [den, Option.some.injEq] at v1; subst v1; rfl
     ·cases hs
  simpa [flatV] using this l m L h hL
def FRes (ν : Nm) (k : AV) (ES : List MapEntry) (i : Nat) : Option (Nat × AV × Nat) → Option (Nat × Value) → Prop
 | none, r => r = none
 | some (j, v, b), r => ∃ m, i ≤ j ∧ ES[j - i]? = some m ∧ r = some (j, m.val) ∧ den ν v = some m.val ∧ m.born = b ∧ (∀ K, den ν k = some K → m.key = K ∧ flatV K = true)
theorem FRes.step {k : AV} {ES : List MapEntry} {m : MapEntry} {i : Nat} {r : Option (Nat × AV × Nat)} {R : Option (Nat × Value)} (h : FRes ν k ES (i + 1) r R) : FRes ν k (m :: ES) i r R := by
 cases r with
 | none => exact h
 | some p =>
  obtain ⟨j, v, b⟩ := p
  obtain ⟨m', h1, h2, h3⟩ := h
  refine ⟨m', by omega, ?_, h3⟩
  have : j - i = (j - (i + 1)) + 1 := by omega
  rw [this]
  simpa using h2
theorem findA_rel {kt : TypeId} {k : AV} {K : Value} (hf : (flatT P kt && keyOk P kt k) = true) (hk : den ν k = some K) : ∀ {es : List (AV × AV × Nat)} {ES : List MapEntry} {i : Nat} {r : Option (Nat × AV × Nat)}, All2 (ERel ν) es ES → findA P kt k es i = some r →
  ∃ R, FRes ν k ES i r R ∧ (Instr.findAsking kt K ES i).run P w = .ok R w ∧ (∀ d, P.underlying kt = some d → flatKind d = true → Instr.findNow d K ES i = some R)
 | [], [], i, r, _, h => by
  simp only [findA, Option.some.injEq] at h
  subst h
  exact ⟨none, rfl, rfl, fun _ _ _ => rfl⟩
 | (k', v, b) :: es, m :: ES, i, r, ⟨⟨e1, e2, e3⟩, hes⟩, h => by
  simp only at e1 e2 e3
  unfold findA at h
  have now_ : ∀ {q : Bool}, keyOk P kt k' = true → keyEq k k' = some q → ∀ d, P.underlying kt = some d → flatKind d = true → Instr.sameNow d K m.key = some q := fun {q} ho hq d hd hfl => by
   have hko : keyOk P kt k = true := by simp only [Bool.and_eq_true] at hf; exact hf.2
   unfold keyOk at hko ho
   rw [hd] at hko ho
   cases d <;> first | (cases hfl; done) | skip
   all_goals
    cases k <;> first | (cases hko; done) | skip
   all_goals
    cases k' <;> first | (cases ho; done) | skip
   ·simp only [den, Option.some.injEq] at hk e1
    rw [← hk, ← e1]
    simp only [keyEq, Option.some.injEq] at hq
    simp only [Instr.sameNow, hq]
   ·rename_i kk k1 a k2 c
    have q1 := kindEq_spec hko
    have q2 := kindEq_spec ho
    subst q1 q2
    simp only [den, Option.some.injEq] at hk e1
    rw [← hk, ← e1]
    have : kindEq kk kk = true := by cases kk <;> rfl
    simp only [keyEq, this, Option.some.injEq, intEq_spec] at hq
    simp only [Instr.sameNow, if_true, hq]
   ·simp only [den, Option.some.injEq] at hk e1
    rw [← hk, ← e1]
    simp only [keyEq, Option.some.injEq, bytesEq_spec] at hq
    simp only [Instr.sameNow, Option.some.injEq]
    rw [← hq]
    rename_i aa bb
    show (aa.toArray == bb.toArray) = _
    simp
  split at h
  ·rename_i ho hq
   injection h with h
   subst h
   have heq := eqA_sound (P := P) (w := w) 2 Op.maxDepth kt k k' true K m.key (by decide) (keyEq_eqA hf ho hq) hk e1
   refine ⟨some (i, m.val), ⟨m, Nat.le_refl _, by simp, rfl, e2, e3.symm, fun K' hK' => ?_⟩, ?_, fun d hd hfl => ?_⟩
   ·rw [hk] at hK'
    injection hK' with hK'
    subst hK'
    exact ⟨keyEq_same hq hk e1, keyEq_flat hq hk⟩
   ·rw [Instr.findAsking]
    show (Sem.bind (Op.equal kt K m.key) _).run P w = _
    rw [run_bind, show (Op.equal kt K m.key).run P w = _ from heq]
    rfl
   ·rw [Instr.findNow, now_ ho hq d hd hfl]
  ·rename_i ho hq
   obtain ⟨R, h1, h2, h3⟩ := findA_rel hf hk hes h
   have heq := eqA_sound (P := P) (w := w) 2 Op.maxDepth kt k k' false K m.key (by decide) (keyEq_eqA hf ho hq) hk e1
   refine ⟨R, h1.step, ?_, fun d hd hfl => ?_⟩
   ·rw [Instr.findAsking]
    show (Sem.bind (Op.equal kt K m.key) _).run P w = _
    rw [run_bind, show (Op.equal kt K m.key).run P w = _ from heq]
    exact h2
   ·rw [Instr.findNow, now_ ho hq d hd hfl]
    exact h3 d hd hfl
  ·cases h
 | [], _ :: _, _, _, hp, _ => hp.elim
 | _ :: _, [], _, _, hp, _ => hp.elim
theorem run_findKey {kt : TypeId} {k : AV} {K : Value} (hf : (flatT P kt && keyOk P kt k) = true) (hk : den ν k = some K) {es : List (AV × AV × Nat)} {ES : List MapEntry} {r : Option (Nat × AV × Nat)} (he : All2 (ERel ν) es ES) (h : findA P kt k es 0 = some r) :
  ∃ R, FRes ν k ES 0 r R ∧ (Instr.findKey kt K ES).run P w = .ok R w := by
 obtain ⟨R, h1, h2, h3⟩ := findA_rel (P := P) (w := w) hf hk he h
 refine ⟨R, h1, ?_⟩
 unfold Instr.findKey
 simp only [Bool.and_eq_true] at hf
 have hfl := hf.1
 unfold flatT at hfl
 split at hfl
 ·rename_i fields hu
  show (Sem.bind (underlying kt) _).run P w = _
  rw [run_bind, run_underlying hu]
  simp only []
  cases ES with
  | nil =>
   have : R = none := by
    cases es with
    | nil => simp only [findA, Option.some.injEq] at h; subst h; exact h1
    | cons _ _ => exact he.elim
   subst this
   rfl
  | cons m ES =>
   have : Instr.findNow (.struct fields) K (m :: ES) 0 = none := by
    rw [Instr.findNow]
    have : Instr.sameNow (.struct fields) K m.key = none := by cases K <;> cases m.key <;> rfl
    rw [this]
   rw [this]
   exact h2
 ·rename_i m' e' hu
  show (Sem.bind (underlying kt) _).run P w = _
  rw [run_bind, run_underlying hu]
  simp only []
  cases ES with
  | nil =>
   have : R = none := by
    cases es with
    | nil => simp only [findA, Option.some.injEq] at h; subst h; exact h1
    | cons _ _ => exact he.elim
   subst this
   rfl
  | cons m ES =>
   have : Instr.findNow (.array m' e') K (m :: ES) 0 = none := by
    rw [Instr.findNow]
    have : Instr.sameNow (.array m' e') K m.key = none := by cases K <;> cases m.key <;> rfl
    rw [this]
   rw [this]
   exact h2
 ·rename_i d hd hna hns
  show (Sem.bind (underlying kt) _).run P w = _
  rw [run_bind, run_underlying hns]
  simp only []
  rw [h3 d hns hfl]
  rfl
 ·cases hfl
end
end Go.Proofs.YtcjbpaiomcfgnaaGreatDoor
namespace Go.Proofs.YtcjbpaiomcfgnaaGreatDoor
open Go Go.RowKit
theorem run_getObj {P : Program} {w : World} {g : Nat} {o : Obj} (h : w.heap[g]? = some o) (hc : ∀ a b c, o ≠ .cells a b c) : (getObj g).run P w = .ok o w := by
 unfold getObj
 cases o <;> first | (exact absurd rfl (hc _ _ _)) | simp only [Sem.run, h]
theorem run_setObj {P : Program} {w : World} {g : Nat} {o : Obj} (o' : Obj) (h : w.heap[g]? = some o) (hc : ∀ a b c, o ≠ .cells a b c) : (setObj g o').run P w = .ok () (w.putObj g o') := by
 unfold setObj
 cases o <;> first | (exact absurd rfl (hc _ _ _)) | (simp only [Sem.run, h]; rfl)
section
variable {P : Program} {w0 w : World} {A : Anch} {ν : Nm} {s : St}
theorem WRel.map_ (h : WRel P w0 A ν s w) {i g : Nat} {es : List (AV × AV × Nat)} {c : Nat} (hi : s.h.get i = some (.map es c)) (hg : ν i = some g) : ∃ arr, w.heap[g]? = some (.map arr c) ∧ All2 (ERel ν) es arr.toList := by
 obtain ⟨obj, h1, h2⟩ := h.at_ hi hg
 cases obj <;> simp only [ORel] at h2 <;> try exact h2.elim
 obtain ⟨rfl, h2⟩ := h2
 exact ⟨_, h1, h2⟩
theorem WRel.putObj (h : WRel P w0 A ν s w) {i g : Nat} {o0 o : AObj} {obj : Obj} (hi : s.h.get i = some o0) (hg : ν i = some g) (hO : ORel P ν o obj) : WRel P w0 A ν (setO s i o) (w.putObj g obj) :=
 h.write hi hg hO (Upd.obj obj (h.lt hi hg)) (fun _ hx => List.mem_cons_of_mem _ hx) (fun _ _ => List.mem_cons_self)
theorem setEntry_rel {k v : AV} {K V : Value} (hk : den ν k = some K) (hv : den ν v = some V) : ∀ {es : List (AV × AV × Nat)} {ES : List MapEntry} (j : Nat), All2 (ERel ν) es ES → All2 (ERel ν) (setEntry k v es j) (ES.modify j fun e => { e with key := K, val := V })
 | [], [], j, _ => by cases j <;> exact trivial
 | (k', v', b) :: es, m :: ES, 0, h => ⟨⟨hk, hv, h.1.2.2⟩, h.2⟩
 | e :: es, m :: ES, j + 1, h => ⟨h.1, setEntry_rel hk hv j h.2⟩
 | [], _ :: _, _, hp => hp.elim
 | _ :: _, [], _, hp => hp.elim
theorem run_stays {old K : Value} (h : old = K) (hf : flatV K = true) : (Instr.keyThatStays old K).run P w = .ok K w := by
 subst h
 unfold Instr.keyThatStays
 rw [if_pos (sameBits_self hf)]
 rfl
theorem All2.push {es : List (AV × AV × Nat)} {arr : Array MapEntry} (h : All2 (ERel ν) es arr.toList) {e : AV × AV × Nat} {m : MapEntry} (he : ERel ν e m) : All2 (ERel ν) (es ++ [e]) (arr.push m).toList := by
 rw [Array.toList_push]
 exact All2.append h ⟨he, trivial⟩
theorem updateA_rel (h : WRel P w0 A ν s w) {t : TypeId} {m k v : AV} {M K V : Value} {s' : St} (hu : updateA P s t m k v = some s') (hm : den ν m = some M) (hk : den ν k = some K) (hv : den ν v = some V) : ∃ w', WRel P w0 A ν s' w' ∧ (Instr.mapUpdate t M K V).run P w = .ok () w' := by
 unfold updateA at hu
 split at hu
 ·rename_i kt e i ht
  obtain ⟨g, hg, rfl⟩ := map_den hm
  split at hu
  ·rename_i es c hf hi
   obtain ⟨arr, ho, harr⟩ := h.map_ hi hg
   have hck := fun b => run_checkKey (P := P) (w := w) (ν := ν) (b := b) (n := 9998) hf hk
   have run_ : (Instr.mapUpdate t (.map (some g)) K V).run P w = ((Instr.findKey kt K arr.toList).bind fun r => match r with
     | some (i, _) => (Instr.keyThatStays (((arr[i]?).map (·.key)).getD K) K).bind fun key => setObj g (.map (arr.modify i fun e => { e with key, val := V }) c)
     | none => setObj g (.map (arr.push { key := K, val := V, born := c }) (c + 1))).run P w := by
    unfold Instr.mapUpdate
    simp only [bind]
    rw [run_bind, run_underlying ht]
    simp only []
    rw [run_bind, run_getObj ho (by simp)]
    simp only []
    rw [run_bind, hck]
    rfl
   rw [run_]
   split at hu
   ·rename_i j v' b hfd
    injection hu with hu
    subst hu
    obtain ⟨R, h1, h2⟩ := run_findKey (P := P) (w := w) hf hk harr hfd
    obtain ⟨me, _, hme, rfl, _, _, hsame⟩ := h1
    obtain ⟨e1, e2⟩ := hsame K hk
    refine ⟨_, h.putObj hi hg (o := .map (setEntry k v es j) c) (obj := .map (arr.modify j fun e => { e with key := K, val := V }) c) ⟨rfl, ?_⟩, ?_⟩
    ·rw [Array.toList_modify]
     exact setEntry_rel hk hv j harr
    ·rw [run_bind, h2]
     simp only []
     have : ((arr[j]?).map (·.key)).getD K = K := by
      rw [Nat.sub_zero] at hme
      have hme' : arr[j]? = some me := by simpa using hme
      rw [hme']
      exact e1
     rw [run_bind, run_stays this e2]
     exact run_setObj _ ho (by simp)
   ·rename_i hfd
    injection hu with hu
    subst hu
    obtain ⟨R, h1, h2⟩ := run_findKey (P := P) (w := w) hf hk harr hfd
    simp only [FRes] at h1
    subst h1
    refine ⟨_, h.putObj hi hg (o := .map (es ++ [(k, v, c)]) (c + 1)) (obj := .map (arr.push { key := K, val := V, born := c }) (c + 1)) ⟨rfl, All2.push harr ⟨hk, hv, rfl⟩⟩, ?_⟩
    rw [run_bind, h2]
    exact run_setObj _ ho (by simp)
   ·cases hu
  ·cases hu
 ·cases hu
theorem entryA_rel (h : WRel P w0 A ν s w) {t : TypeId} {m k v : AV} {M K : Value} {s' : St} (hu : entryA P s t m k = some (v, s')) (hm : den ν m = some M) (hk : den ν k = some K) : OpOk P w0 A ν s' v ((Instr.mapEntry t M K).run P w) := by
 unfold entryA at hu
 split at hu
 ·rename_i kt e i ht
  obtain ⟨g, hg, rfl⟩ := map_den hm
  split at hu
  ·rename_i es c z hf hi hz
   obtain ⟨arr, ho, harr⟩ := h.map_ hi hg
   obtain ⟨Z, hZ, rz⟩ := run_zeroA (P := P) (ν := ν) (w := w) hz
   have hck := fun b => run_checkKey (P := P) (w := w) (ν := ν) (b := b) (n := 9998) hf hk
   have run_ : (Instr.mapEntry t (.map (some g)) K).run P w = ((Instr.findKey kt K arr.toList).bind fun r => match r with
     | some (i, v) => (Instr.keyThatStays (((arr[i]?).map (·.key)).getD K) K).bind fun key => (setObj g (.map (arr.modify i fun e => { e with key }) c)).bind fun _ => pure (.tuple #[v, goInt (((arr[i]?).map (·.born)).getD 0)])
     | none => (zeroValue e).bind fun zero => (setObj g (.map (arr.push { key := K, val := zero, born := c }) (c + 1))).bind fun _ => pure (.tuple #[zero, goInt c])).run P w := by
    unfold Instr.mapEntry
    simp only [bind]
    rw [run_bind, run_underlying ht]
    simp only []
    rw [run_bind, run_getObj ho (by simp)]
    simp only []
    rw [run_bind, hck]
    rfl
   rw [run_]
   split at hu
   ·rename_i j v' b hfd
    simp only [Option.some.injEq, Prod.mk.injEq] at hu
    obtain ⟨rfl, rfl⟩ := hu
    obtain ⟨R, h1, h2⟩ := run_findKey (P := P) (w := w) hf hk harr hfd
    obtain ⟨me, _, hme, rfl, hv', hb, hsame⟩ := h1
    obtain ⟨e1, e2⟩ := hsame K hk
    rw [Nat.sub_zero] at hme
    have hme' : arr[j]? = some me := by simpa using hme
    refine ⟨ν, .tuple #[me.val, goInt b], _, Nm.le.refl _, h.putObj hi hg (o := .map (setEntry k v' es j) c) (obj := .map (arr.modify j fun e => { e with key := K }) c) ⟨rfl, ?_⟩, by simp [den, denL, hv', i64, goInt], ?_⟩
    ·rw [Array.toList_modify]
     have := setEntry_rel hk hv' j harr
     have e : ∀ (L : List MapEntry) (j : Nat), L[j]? = some me → (L.modify j fun e => { e with key := K, val := me.val }) = (L.modify j fun e => { e with key := K }) := fun L => by
      induction L with
      | nil => intro j hj; simp at hj
      | cons m L ih =>
       intro j hj
       cases j with
       | zero => simp at hj; subst hj; rfl
       | succ j => simp only [List.modify_succ_cons]; rw [ih j (by simpa using hj)]
     rw [e arr.toList j hme] at this
     exact this
    ·rw [run_bind, h2]
     simp only []
     have : ((arr[j]?).map (·.key)).getD K = K := by rw [hme']; exact e1
     rw [run_bind, run_stays this e2]
     simp only []
     rw [run_bind, run_setObj _ ho (by simp)]
     simp only [hme', Option.map_some, Option.getD_some, hb]
     rfl
   ·rename_i hfd
    simp only [Option.some.injEq, Prod.mk.injEq] at hu
    obtain ⟨rfl, rfl⟩ := hu
    obtain ⟨R, h1, h2⟩ := run_findKey (P := P) (w := w) hf hk harr hfd
    simp only [FRes] at h1
    subst h1
    refine ⟨ν, .tuple #[Z, goInt c], _, Nm.le.refl _, h.putObj hi hg (o := .map (es ++ [(k, z, c)]) (c + 1)) (obj := .map (arr.push { key := K, val := Z, born := c }) (c + 1)) ⟨rfl, All2.push harr ⟨hk, hZ, rfl⟩⟩, by simp [den, denL, hZ, i64, goInt], ?_⟩
    rw [run_bind, h2]
    simp only []
    rw [run_bind, rz]
    simp only []
    rw [run_bind, run_setObj _ ho (by simp)]
    rfl
   ·cases hu
  ·cases hu
 ·cases hu
theorem putBorn_rel {v : AV} {V : Value} {b : Nat} (hv : den ν v = some V) : ∀ {es es' : List (AV × AV × Nat)} {ES : List MapEntry}, All2 (ERel ν) es ES → putBorn v b es = some es' →
  ∃ j, ES.findIdx? (fun e => (e.born : Int) == (b : Int)) = some j ∧ All2 (ERel ν) es' (ES.modify j fun e => { e with val := V })
 | [], _, _, _, h => by simp [putBorn] at h
 | (k, v', b') :: es, es', [], hp, _ => hp.elim
 | (k, v', b') :: es, es', m :: ES, hp, h => by
  simp only [putBorn] at h
  have hb : b' = m.born := hp.1.2.2
  split at h
  ·rename_i hq
   have hq := Nat.eq_of_beq_eq_true hq
   injection h with h
   subst h
   refine ⟨0, ?_, ⟨hp.1.1, hv, hp.1.2.2⟩, hp.2⟩
   rw [List.findIdx?_cons]
   have : ((m.born : Int) == (b : Int)) = true := by rw [← hb, hq]; simp
   rw [this]
   rfl
  ·rename_i hq
   have hq := Nat.ne_of_beq_eq_false hq
   split at h
   ·rename_i r hr
    injection h with h
    subst h
    obtain ⟨j, h1, h2⟩ := putBorn_rel hv hp.2 hr
    refine ⟨j + 1, ?_, hp.1, h2⟩
    rw [List.findIdx?_cons]
    have : ((m.born : Int) == (b : Int)) = false := by rw [← hb]; simp; omega
    rw [this, h1]
    rfl
   ·cases h
theorem entryStoreA_rel (h : WRel P w0 A ν s w) {t : TypeId} {m b v : AV} {M B V : Value} {s' : St} (hu : entryStoreA s m b v = some s') (hm : den ν m = some M) (hb : den ν b = some B) (hv : den ν v = some V) : ∃ w', WRel P w0 A ν s' w' ∧ (Instr.entryStore t M B V).run P w = .ok () w' := by
 unfold entryStoreA at hu
 split at hu
 ·rename_i i n hn
  obtain ⟨g, hg, rfl⟩ := map_den hm
  obtain ⟨kk, rfl⟩ := natOf_spec hn
  simp only [den, Option.some.injEq] at hb
  subst hb
  split at hu
  ·rename_i es c hi
   obtain ⟨arr, ho, harr⟩ := h.map_ hi hg
   split at hu
   ·rename_i es' hp
    injection hu with hu
    subst hu
    obtain ⟨j, h1, h2⟩ := putBorn_rel hv harr hp
    have h1' : arr.findIdx? (fun e => (e.born : Int) == (n : Int)) = some j := by
     have := List.findIdx?_toArray (p := fun e : MapEntry => (e.born : Int) == (n : Int)) (l := arr.toList)
     rw [Array.toArray_toList] at this
     exact this.trans h1
    refine ⟨_, h.putObj hi hg (o := .map es' c) (obj := .map (arr.modify j fun e => { e with val := V }) c) ⟨rfl, by rw [Array.toList_modify]; exact h2⟩, ?_⟩
    unfold Instr.entryStore
    simp only [bind]
    rw [run_bind, run_getObj ho (by simp)]
    simp only []
    rw [run_bind]
    show (match arr.findIdx? (fun e => (e.born : Int) == (n : Int)) with | some i => _ | none => _ : Sem Unit).run P w = _
    rw [h1']
    exact run_setObj _ ho (by simp)
   ·cases hu
  ·cases hu
 ·cases hu
theorem deleteA_rel (h : WRel P w0 A ν s w) {t tx ty : TypeId} {m k : AV} {M K : Value} {s' : St} (hu : deleteA P s t m k = some s') (hm : den ν m = some M) (hk : den ν k = some K) : OpOk P w0 A ν s' undA ((Builtin.delete_ #[t, tx] ty #[M, K]).run P w) := by
 unfold deleteA at hu
 split at hu
 ·rename_i kt e ht
  split at hu
  ·rename_i hf
   injection hu with hu
   subst hu
   simp only [den, Option.some.injEq] at hm
   subst hm
   refine ⟨ν, .tuple #[], w, Nm.le.refl _, h, rfl, ?_⟩
   unfold Builtin.delete_
   simp only [List.getElem?_toArray, List.getElem?_cons_zero, List.getElem?_cons_succ, bind]
   rw [run_bind, run_underlying ht]
   simp only []
   rw [run_bind, run_checkKey (n := 9998) hf hk]
   rfl
  ·cases hu
 ·rename_i kt e i ht
  obtain ⟨g, hg, rfl⟩ := map_den hm
  split at hu
  ·rename_i es c hf hi
   obtain ⟨arr, ho, harr⟩ := h.map_ hi hg
   have hck := fun b => run_checkKey (P := P) (w := w) (ν := ν) (b := b) (n := 9998) hf hk
   have run_ : (Builtin.delete_ #[t, tx] ty #[.map (some g), K]).run P w = ((Instr.findKey kt K arr.toList).bind fun r => match r with
     | some (i, _) => (setObj g (.map (arr.eraseIdxIfInBounds i) c)).bind fun _ => pure (.tuple #[])
     | none => (setObj g (.map arr c)).bind fun _ => pure (.tuple #[])).run P w := by
    unfold Builtin.delete_
    simp only [List.getElem?_toArray, List.getElem?_cons_zero, List.getElem?_cons_succ, bind]
    rw [run_bind, run_underlying ht]
    simp only []
    rw [run_bind, run_getObj ho (by simp)]
    simp only []
    rw [run_bind, hck]
    rfl
   rw [run_]
   split at hu
   ·rename_i j v' b hfd
    injection hu with hu
    subst hu
    obtain ⟨R, h1, h2⟩ := run_findKey (P := P) (w := w) hf hk harr hfd
    obtain ⟨me, _, hme, rfl, _⟩ := h1
    refine ⟨ν, .tuple #[], _, Nm.le.refl _, h.putObj hi hg (o := .map (es.eraseIdx j) c) (obj := .map (arr.eraseIdxIfInBounds j) c) ⟨rfl, ?_⟩, rfl, ?_⟩
    ·have e : ∀ {es : List (AV × AV × Nat)} {ES : List MapEntry} (j : Nat), All2 (ERel ν) es ES → All2 (ERel ν) (es.eraseIdx j) (ES.eraseIdx j) := fun {es} => by
      induction es with
      | nil => intro ES j h; cases ES with | nil => cases j <;> exact trivial | cons _ _ => exact h.elim
      | cons x es ih =>
       intro ES j h
       cases ES with
       | nil => exact h.elim
       | cons y ES =>
        cases j with
        | zero => exact h.2
        | succ j => exact ⟨h.1, ih j h.2⟩
     have hlt : j < arr.size := by
      rw [Nat.sub_zero] at hme
      have := (List.getElem?_eq_some_iff.1 hme).1
      simpa using this
     unfold Array.eraseIdxIfInBounds
     rw [dif_pos hlt, Array.toList_eraseIdx]
     exact e j harr
    ·rw [run_bind, h2]
     simp only []
     rw [run_bind, run_setObj _ ho (by simp)]
     rfl
   ·rename_i hfd
    injection hu with hu
    subst hu
    obtain ⟨R, h1, h2⟩ := run_findKey (P := P) (w := w) hf hk harr hfd
    simp only [FRes] at h1
    subst h1
    refine ⟨ν, .tuple #[], _, Nm.le.refl _, h.putObj hi hg (o := .map es c) (obj := .map arr c) ⟨rfl, harr⟩, rfl, ?_⟩
    rw [run_bind, h2]
    simp only []
    rw [run_bind, run_setObj _ ho (by simp)]
    rfl
   ·cases hu
  ·cases hu
 ·cases hu
theorem WRel.iter_ (h : WRel P w0 A ν s w) {i g : Nat} {m : Option Nat} {since stepped : Nat} {seen : List Nat} (hi : s.h.get i = some (.iter m since seen stepped)) (hg : ν i = some g) : ∃ m' sn, w.heap[g]? = some (.mapIter m' since sn stepped) ∧ optN ν m m' ∧ sn.toList = seen := by
 obtain ⟨obj, h1, h2⟩ := h.at_ hi hg
 cases obj <;> simp only [ORel] at h2 <;> try exact h2.elim
 obtain ⟨h3, rfl, h4, rfl⟩ := h2
 exact ⟨_, _, h1, h3, h4⟩
theorem All2.filter {α β : Type} {R : α → β → Prop} {p : α → Bool} {q : β → Bool} (hpq : ∀ a b, R a b → p a = q b) : ∀ {l : List α} {m : List β}, All2 R l m → All2 R (l.filter p) (m.filter q)
 | [], [], _ => trivial
 | a :: l, b :: m, h => by
  rw [List.filter_cons, List.filter_cons, hpq a b h.1]
  split
  ·exact ⟨h.1, All2.filter hpq h.2⟩
  ·exact All2.filter hpq h.2
 | [], _ :: _, hp => hp.elim
 | _ :: _, [], hp => hp.elim
theorem All2.all {α β : Type} {R : α → β → Prop} {p : α → Bool} {q : β → Bool} (hpq : ∀ a b, R a b → p a = q b) : ∀ {l : List α} {m : List β}, All2 R l m → l.all p = m.all q
 | [], [], _ => rfl
 | a :: l, b :: m, h => by rw [List.all_cons, List.all_cons, hpq a b h.1, All2.all hpq h.2]
 | [], _ :: _, hp => hp.elim
 | _ :: _, [], hp => hp.elim
theorem any_beq (l : List Nat) (b : Nat) : l.any (Nat.beq b) = l.contains b := by
 induction l with
 | nil => rfl
 | cons x l ih =>
  rw [List.any_cons, List.contains_cons, ih]
  congr 1
  rw [Bool.eq_iff_iff]
  simp [Nat.beq_eq]
theorem rangeA_rel (h : WRel P w0 A ν s w) {t : TypeId} {x v : AV} {X : Value} {s' : St} (hu : rangeA P s t x = some (v, s')) (hx : den ν x = some X) : OpOk P w0 A ν s' v ((Instr.range t X).run P w) := by
 have hk := h.top s.n (Nat.le_refl _)
 unfold rangeA at hu
 split at hu
 ·rename_i kt e ht
  simp only [Option.some.injEq, Prod.mk.injEq] at hu
  obtain ⟨rfl, rfl⟩ := hu
  simp only [den, Option.some.injEq] at hx
  subst hx
  have hw := h.alloc (n' := s.n + 1) (o := .iter none 0 [] 0) (obj := .mapIter none 0 #[] 0) hk (by omega) (by omega) ⟨rfl, rfl, rfl, rfl⟩
  refine ⟨_, .pointer (some ⟨w.heap.size, 0, none⟩), _, Nm.le_set hk _, hw, by simp only [den, Nm.set_same], ?_⟩
  unfold Instr.range
  simp only [bind]
  rw [run_bind, run_underlying ht]
  rfl
 ·rename_i kt e i ht
  split at hu
  ·rename_i es c hi
   simp only [Option.some.injEq, Prod.mk.injEq] at hu
   obtain ⟨rfl, rfl⟩ := hu
   obtain ⟨g, hg, rfl⟩ := map_den hx
   obtain ⟨arr, ho, harr⟩ := h.map_ hi hg
   have hw := h.alloc (n' := s.n + 1) (o := .iter (some i) c [] c) (obj := .mapIter (some g) c #[] c) hk (by omega) (by omega) ⟨⟨g, Nm.le_set hk _ _ _ hg, rfl⟩, rfl, rfl, rfl⟩
   refine ⟨_, .pointer (some ⟨w.heap.size, 0, none⟩), _, Nm.le_set hk _, hw, by simp only [den, Nm.set_same], ?_⟩
   unfold Instr.range
   simp only [bind]
   rw [run_bind, run_underlying ht]
   simp only []
   rw [run_bind, run_getObj ho (by simp)]
   rfl
  ·cases hu
 ·cases hu
end
end Go.Proofs.YtcjbpaiomcfgnaaGreatDoor
namespace Go.Proofs.YtcjbpaiomcfgnaaGreatDoor
open Go Go.RowKit
theorem lastL_eq : ∀ l : List Nat, lastL l = l.getLast?
 | [] => rfl
 | [x] => rfl
 | x :: y :: l => by
  show lastL (y :: l) = _
  rw [lastL_eq (y :: l)]
  simp [List.getLast?_cons_cons]
section
variable {P : Program} {w0 w : World} {A : Anch} {ν : Nm} {s : St}
theorem nextA_rel (h : WRel P w0 A ν s w) {it : AV} {IT : Value} {l : List (AV × St)} (hn : nextA s it = some l) (hi : den ν it = some IT) (ty : TypeId) : ∃ p ∈ l, OpOk P w0 A ν p.2 p.1 ((Instr.next IT false ty).run P w) := by
 unfold nextA at hn
 split at hn
 ·rename_i i
  obtain ⟨g, hg, rfl⟩ := ptr_den hi
  split at hn
  ·rename_i since seen stepped hit
   obtain ⟨m', sn, ho, hm, _⟩ := h.iter_ hit hg
   simp only [optN] at hm
   subst hm
   injection hn with hn
   subst hn
   refine ⟨_, List.mem_singleton.2 rfl, ν, .tuple #[.bool false], w, Nm.le.refl _, h, rfl, ?_⟩
   unfold Instr.next
   simp only [bind]
   rw [run_bind, run_getObj ho (by simp)]
   rfl
  ·rename_i m since seen stepped hit
   obtain ⟨m', sn, ho, hm, hsn⟩ := h.iter_ hit hg
   obtain ⟨gm, hgm, rfl⟩ := hm
   split at hn
   ·rename_i es clock hmap
    obtain ⟨arr, hom, harr⟩ := h.map_ hmap hgm
    split at hn
    ·cases hn
    ·rename_i hc
     simp only [Bool.and_eq_true] at hc
     have hcl := Nat.eq_of_beq_eq_true hc.1
     subst hcl
     have hborn : ∀ x ∈ arr.toList, x.born < clock := fun x hx => by
      have : (arr.toList.all fun m => Nat.ble (m.born + 1) clock) = true := by
       rw [← All2.all (p := fun e : AV × AV × Nat => Nat.ble (e.2.2 + 1) clock) (fun a b hab => by rw [hab.2.2]) harr]
       exact hc.2
      have := List.all_eq_true.1 this x hx
      exact Nat.le_of_ble_eq_true this
     have hcond : (!sn.isEmpty && !arr.isEmpty && arr.all fun x => decide (x.born ≥ clock)) = false := by
      cases hL : arr.toList with
      | nil =>
       have : arr.isEmpty = true := by simpa using hL
       simp [this]
      | cons x L =>
       have hx := hborn x (by rw [hL]; simp)
       have : (arr.all fun x => decide (x.born ≥ clock)) = false := by
        rw [← Array.all_toList, hL, List.all_cons]
        have : decide (x.born ≥ clock) = false := by simp; omega
        rw [this]
        rfl
       simp [this]
     have hleft := All2.filter (p := fun e : AV × AV × Nat => !seen.any (Nat.beq e.2.2)) (q := fun e : MapEntry => !sn.contains e.born) (fun a b hab => by
      rw [any_beq, hab.2.2, ← hsn, List.contains_eq_mem]; simp [Array.contains_eq_mem]) harr
     have run0 : (Instr.next (.pointer (some ⟨g, 0, none⟩)) false ty).run P w = (Sem.run P (do
       let left := arr.filter fun e : MapEntry => !sn.contains e.born
       let old := left.filter fun e : MapEntry => decide (e.born < since)
       let new := left.filter fun e : MapEntry => decide (e.born ≥ since)
       let candidates := (if old.isEmpty then #[none] else #[]) ++ (old ++ new).map some
       match candidates[← choose (.mapNext candidates.size)]? with
       | some (some e) =>
        setObj g (.mapIter (some gm) since (sn.push e.born) clock)
        pure (.tuple #[.bool true, e.key, e.val])
       | some none => pure (.tuple #[.bool false])
       | none => stuck "Next: no such candidate") w) := by
      unfold Instr.next
      simp only [bind]
      rw [run_bind, run_getObj ho (by simp)]
      simp only []
      rw [run_bind, run_getObj hom (by simp)]
      simp only [hcond]
      rfl
     rw [run0]
     clear run0
     obtain ⟨L, hL⟩ : ∃ L, L = arr.filter fun e : MapEntry => !sn.contains e.born := ⟨_, rfl⟩
     have hleft' : All2 (ERel ν) (es.filter fun e : AV × AV × Nat => !seen.any (Nat.beq e.2.2)) L.toList := by
      rw [hL, Array.toList_filter]
      exact hleft
     rw [← hL]
     simp only at hn
     split at hn
     ·rename_i hnil
      rw [hnil] at hleft'
      have : L = #[] := by
       cases hLL : L.toList with
       | nil => exact Array.toList_eq_nil_iff.1 hLL
       | cons x y => rw [hLL] at hleft'; exact hleft'.elim
      subst this
      injection hn with hn
      subst hn
      refine ⟨_, List.mem_singleton.2 rfl, ν, .tuple #[.bool false], w, Nm.le.refl _, h.kill _, rfl, ?_⟩
      simp [choose, Sem.run, Question.forced]
     ·rename_i hne
      split at hn
      ·rename_i hold
       injection hn with hn
       subst hn
       have holdL : ∀ x ∈ L.toList, x.born < since := fun x hx => by
        have : (L.toList.all fun m => Nat.ble (m.born + 1) since) = true := by
         rw [← All2.all (p := fun e : AV × AV × Nat => Nat.ble (e.2.2 + 1) since) (fun a b hab => by rw [hab.2.2]) hleft']
         exact hold
        exact Nat.le_of_ble_eq_true (List.all_eq_true.1 this x hx)
       have f1 : (L.filter fun e : MapEntry => decide (e.born < since)) = L := by
        rw [Array.filter_eq_self]
        intro a ha
        simpa using holdL a (by simpa using ha)
       have f2 : (L.filter fun e : MapEntry => decide (e.born ≥ since)) = #[] := by
        rw [Array.filter_eq_empty_iff]
        intro a ha
        have := holdL a (by simpa using ha)
        simp
        omega
       have hlen := hleft'.length
       have hpos : 0 < L.size := by
        rcases Nat.eq_zero_or_pos L.size with h0 | h0
        ·exfalso
         have : (es.filter fun e : AV × AV × Nat => !seen.any (Nat.beq e.2.2)) = [] := List.eq_nil_of_length_eq_zero (by rw [hlen]; simpa using h0)
         exact hne this
        ·exact h0
       have hemp : L.isEmpty = false := by
        rw [Array.isEmpty_eq_false_iff_exists_mem]
        exact ⟨L[0], Array.getElem_mem hpos⟩
       have goal_ : ∀ (w1 : World), WRel P w0 A ν s w1 → w1.heap = w.heap → ∀ j, j < L.size → ∃ p ∈ ((es.filter fun e : AV × AV × Nat => !seen.any (Nat.beq e.2.2)).map fun e => (AV.tup [.bool true, e.1, e.2.1], setO s i (.iter (some m) since (seen ++ [e.2.2]) clock))),
         OpOk P w0 A ν p.2 p.1 ((match (L.map some)[j]? with
         | some (some e) => (setObj g (.mapIter (some gm) since (sn.push e.born) clock)).bind fun _ => pure (.tuple #[.bool true, e.key, e.val])
         | some none => pure (.tuple #[.bool false])
         | none => stuck "Next: no such candidate" : Sem Value).run P w1) := fun w1 h1 hw1 j hj => by
        obtain ⟨e, he, hrel⟩ := All2.get hleft' (i := j) (b := L[j]) (by simp [hj])
        refine ⟨_, List.mem_map.2 ⟨e, List.mem_of_getElem? he, rfl⟩, ν, .tuple #[.bool true, L[j].key, L[j].val], _, Nm.le.refl _, h1.putObj hit hg (o := .iter (some m) since (seen ++ [e.2.2]) clock) (obj := .mapIter (some gm) since (sn.push L[j].born) clock) ⟨⟨gm, hgm, rfl⟩, rfl, by rw [Array.toList_push, hsn, hrel.2.2], rfl⟩, ?_, ?_⟩
        ·simp [den, denL, hrel.1, hrel.2.1]
        ·have : (L.map some)[j]? = some (some L[j]) := by simp [hj]
         rw [this]
         simp only []
         rw [run_bind, run_setObj _ (by rw [hw1]; exact ho) (by simp)]
         rfl
       simp only [f1, f2, hemp, Bool.false_eq_true, if_false, Array.append_empty, Array.empty_append, Array.size_map, bind]
       rw [run_bind]
       unfold choose
       simp only [Sem.run]
       by_cases hf : Question.forced (.mapNext L.size) = true
       ·rw [if_pos hf]
        simp only [Sem.run]
        exact goal_ w h rfl 0 hpos
       ·rw [if_neg hf]
        simp only [Sem.run]
        exact goal_ _ h.drew rfl _ (Nat.mod_lt _ hpos)
      ·cases hn
   ·cases hn
  ·cases hn
 ·cases hn
theorem findBorn_rel {b : Nat} {k v : AV} : ∀ {es : List (AV × AV × Nat)} {ES : List MapEntry}, All2 (ERel ν) es ES → findBorn b es = some (k, v) → ∃ m, ES.find? (fun e => e.born == b) = some m ∧ den ν k = some m.key ∧ den ν v = some m.val
 | [], _, _, h => by simp [findBorn] at h
 | (k', v', b') :: es, [], hp, _ => hp.elim
 | (k', v', b') :: es, m :: ES, hp, h => by
  simp only [findBorn] at h
  have hb : b' = m.born := hp.1.2.2
  split at h
  ·rename_i hq
   have hq := Nat.eq_of_beq_eq_true hq
   simp only [Option.some.injEq, Prod.mk.injEq] at h
   obtain ⟨rfl, rfl⟩ := h
   refine ⟨m, ?_, hp.1.1, hp.1.2.1⟩
   rw [List.find?_cons]
   have : (m.born == b) = true := by rw [← hb, hq]; simp
   rw [this]
  ·rename_i hq
   have hq := Nat.ne_of_beq_eq_false hq
   obtain ⟨m', h1, h2⟩ := findBorn_rel hp.2 h
   refine ⟨m', ?_, h2⟩
   rw [List.find?_cons]
   have : (m.born == b) = false := by rw [← hb]; simpa using hq
   rw [this]
   exact h1
end
end Go.Proofs.YtcjbpaiomcfgnaaGreatDoor
