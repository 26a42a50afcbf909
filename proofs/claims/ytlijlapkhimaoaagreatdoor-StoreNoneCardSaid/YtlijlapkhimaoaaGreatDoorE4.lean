/- The evaluator, 4: operations that neither write nor make anything. No program in sight. -/
import Derived.Test.YtlijlapkhimaoaaGreatDoorE3
import Derived.Laws.Strings
namespace Go.Proofs.YtlijlapkhimaoaaGreatDoor
open Go Go.RowKit

theorem intEq_spec (a b : Int) : intEq a b = (a == b) := by
  cases a <;> cases b <;> simp only [intEq]
  · rename_i m n
    cases h : Nat.beq m n with
    | true => rw [Nat.eq_of_beq_eq_true h]; simp
    | false =>
      have := Nat.ne_of_beq_eq_false h
      symm
      simp only [beq_eq_false_iff_ne, ne_eq]
      intro e
      injection e with e
      exact this e
  · rfl
  · rfl
  · rename_i m n
    cases h : Nat.beq m n with
    | true => rw [Nat.eq_of_beq_eq_true h]; simp
    | false =>
      have := Nat.ne_of_beq_eq_false h
      symm
      simp only [beq_eq_false_iff_ne, ne_eq]
      intro e
      injection e with e
      exact this e
theorem kindEq_spec {a b : IntKind} (h : kindEq a b = true) : a = b := by cases a <;> cases b <;> first | rfl | cases h
theorem bytesEq_spec : ∀ (a b : List UInt8), bytesEq a b = (a == b)
  | [], [] => rfl
  | [], _ :: _ => rfl
  | _ :: _, [] => rfl
  | a :: x, b :: y => by
    simp only [bytesEq]
    rw [List.cons_beq_cons]
    cases h : Nat.beq a.toNat b.toNat with
    | true =>
      have : a = b := UInt8.toNat_inj.1 (Nat.eq_of_beq_eq_true h)
      subst this
      simp [bytesEq_spec x y]
    | false =>
      have : a ≠ b := fun e => Nat.ne_of_beq_eq_false h (by rw [e])
      have h2 : (a == b) = false := by simpa using this
      simp [h2]
theorem bytesLt_spec : ∀ (a b : List UInt8), bytesLt a b = Op.bytesLess a b
  | _, [] => by unfold bytesLt Op.bytesLess; rfl
  | [], _ :: _ => rfl
  | a :: x, b :: y => by
    simp only [bytesLt, Op.bytesLess]
    cases h : Nat.ble (a.toNat + 1) b.toNat with
    | true =>
      have : a < b := UInt8.lt_iff_toNat_lt.2 (Nat.le_of_ble_eq_true h)
      simp [this]
    | false =>
      have h0 : ¬ a.toNat + 1 ≤ b.toNat := fun hle => by rw [Nat.ble_eq_true_of_le hle] at h; cases h
      have : ¬ a < b := fun hlt => h0 (UInt8.lt_iff_toNat_lt.1 hlt)
      cases h1 : Nat.beq a.toNat b.toNat with
      | true =>
        have e : a = b := UInt8.toNat_inj.1 (Nat.eq_of_beq_eq_true h1)
        subst e
        simp [bytesLt_spec x y]
      | false =>
        have e : a ≠ b := fun e => Nat.ne_of_beq_eq_false h1 (by rw [e])
        simp [this, e]
theorem ba_toList (l : List UInt8) : (ByteArray.mk l.toArray).toList = l := by
  rw [ByteArray.toList_eq]
theorem ba_append (l m : List UInt8) : (ByteArray.mk l.toArray) ++ (ByteArray.mk m.toArray) = ByteArray.mk (l ++ m).toArray := by
  apply ByteArray.ext
  simp

section
variable {P : Program} {ν : Nm} {w : World}

theorem run_isAgg {t : TypeId} {b : Bool} (h : isAggT P t = some b) : (isAgg t).run P w = .ok b w := by
  unfold isAggT at h
  show (Sem.bind (underlying t) _).run P w = _
  rw [run_bind]
  cases hu : P.underlying t with
  | none => rw [hu] at h; cases h
  | some d =>
    rw [run_underlying hu]
    rw [hu] at h
    cases d <;> simp only [Option.some.injEq] at h <;> subst h <;> rfl
theorem sizeT_spec {t : TypeId} {n : Nat} (h : sizeT P t = some n) : ∃ i, P.info? t = some i ∧ i.size = n := by
  unfold sizeT at h
  cases hi : P.info? t with
  | none => rw [hi] at h; cases h
  | some i => rw [hi] at h; injection h with h; exact ⟨i, rfl, h⟩
theorem run_sizeT {t : TypeId} {n : Nat} (h : sizeT P t = some n) : (sizeOf t).run P w = .ok n w := by
  obtain ⟨i, hi, rfl⟩ := sizeT_spec h
  exact run_sizeOf hi
theorem isAggT_und {t : TypeId} {b : Bool} (h : isAggT P t = some b) : ∃ d, P.underlying t = some d ∧ (b = true → (∃ fs, d = .struct fs) ∨ ∃ n e, d = .array n e) ∧ (b = false → (∀ fs, d ≠ .struct fs) ∧ ∀ n e, d ≠ .array n e) := by
  unfold isAggT at h
  cases hu : P.underlying t with
  | none => rw [hu] at h; cases h
  | some d =>
    rw [hu] at h
    refine ⟨d, rfl, ?_, ?_⟩ <;> cases d <;> simp_all
theorem run_part {t : TypeId} {cs : List AV} {CS : List Value} {off : Nat} {v : AV} (hc : denL ν cs = some CS) (h : partA P t cs off = some v) : ∃ V, den ν v = some V ∧ (part t CS.toArray off).run P w = .ok V w := by
  unfold partA at h
  split at h
  · rename_i ha
    split at h
    · rename_i n hn
      rw [Option.map_eq_some_iff] at h
      obtain ⟨r, hr, rfl⟩ := h
      obtain ⟨h1, h2⟩ := denL_cut hc hr
      refine ⟨.agg ((CS.drop off).take n).toArray, by simp [den, h1], ?_⟩
      show (Sem.bind (isAgg t) _).run P w = _
      rw [run_bind, run_isAgg ha]
      show (Sem.bind (sizeOf t) _).run P w = _
      rw [run_bind, run_sizeT hn]
      show Result.ok _ w = _
      congr 2
      simp [List.extract_eq_take_drop]
    · cases h
  · rename_i ha
    obtain ⟨V, h1, h2⟩ := denL_get hc h
    refine ⟨V, h2, ?_⟩
    show (Sem.bind (isAgg t) _).run P w = _
    rw [run_bind, run_isAgg ha]
    simp only [Bool.false_eq_true, if_false, List.getElem?_toArray, h1]
    rfl
  · cases h
theorem partA_load {t : TypeId} {l : List AV} {L R : List Value} {off : Nat} {v : AV} (hl : denL ν l = some L) (h : partA P t l off = some v) : ∃ V, den ν v = some V ∧ loadOf P t (L ++ R) off = some V := by
  unfold partA at h
  split at h
  · rename_i ha
    split at h
    · rename_i n hn
      rw [Option.map_eq_some_iff] at h
      obtain ⟨r, hr, rfl⟩ := h
      obtain ⟨h1, h2⟩ := denL_cut hl hr
      obtain ⟨i, hi, rfl⟩ := sizeT_spec hn
      obtain ⟨d, hd, hag, _⟩ := isAggT_und ha
      have e : ((L ++ R).drop off).take i.size = (L.drop off).take i.size := by
        rcases Nat.eq_zero_or_pos i.size with h0 | h0
        · simp [h0]
        · have : off + i.size ≤ L.length := by simp at h2; omega
          rw [List.drop_append_of_le_length (by omega), List.take_append_of_le_length (by simp; omega)]
      refine ⟨.agg ((L.drop off).take i.size).toArray, by simp [den, h1], ?_⟩
      unfold loadOf
      rw [hd]
      rcases hag rfl with ⟨fs, rfl⟩ | ⟨n, el, rfl⟩ <;> simp only [hi, e, h2, if_true]
    · cases h
  · rename_i ha
    obtain ⟨V, h1, h2⟩ := denL_get hl h
    obtain ⟨d, hd, _, hna⟩ := isAggT_und ha
    refine ⟨V, h2, ?_⟩
    unfold loadOf
    rw [hd]
    have : (L ++ R)[off]? = some V := by
      rw [List.getElem?_append_left (List.getElem?_eq_some_iff.1 h1).1]
      exact h1
    cases d <;> first | exact this | (exact absurd rfl ((hna rfl).1 _)) | (exact absurd rfl ((hna rfl).2 _ _))
  · cases h
theorem zeroA_spec {t : TypeId} {v : AV} (h : zeroA P t = some v) : ∃ i z, P.info? t = some i ∧ i.zero = some z ∧ den ν v = some z := by
  unfold zeroA at h
  cases hi : P.info? t with
  | none => rw [hi] at h; cases h
  | some i =>
    rw [hi] at h
    simp only at h
    cases hz : i.zero with
    | none => rw [hz] at h; cases h
    | some z => rw [hz] at h; exact ⟨i, z, rfl, hz, ofV_den h⟩
theorem run_zeroA {t : TypeId} {v : AV} (h : zeroA P t = some v) : ∃ z, den ν v = some z ∧ (zeroValue t).run P w = .ok z w := by
  obtain ⟨i, z, hi, hz, hd⟩ := zeroA_spec (ν := ν) h
  refine ⟨z, hd, ?_⟩
  show (Sem.bind (typeInfo t) _).run P w = _
  rw [run_bind, run_info hi]
  simp only [hz]
  rfl

/-! ### operators -/
theorem run_intBin {op : BinOp} {k : IntKind} {x y : Int} {v : AV} (h : intBinA op k x y = some v) (ty : TypeId) : ∃ V, den ν v = some V ∧ (binOp op ty (.int k x) (.int k y)).run P w = .ok V w := by
  cases op <;> simp only [intBinA] at h <;> (try (cases h; done))
  case quo =>
    split at h
    · cases h
    · rename_i hne
      rw [intEq_spec] at hne
      injection h with h
      subst h
      refine ⟨_, rfl, ?_⟩
      simp only [binOp, ne_eq, not_true, if_false, Op.intDiv]
      rw [if_neg (by simpa using hne)]
      rfl
  case rem =>
    split at h
    · cases h
    · rename_i hne
      rw [intEq_spec] at hne
      injection h with h
      subst h
      refine ⟨_, rfl, ?_⟩
      simp only [binOp, ne_eq, not_true, if_false, Op.intDiv]
      rw [if_neg (by simpa using hne)]
      rfl
  all_goals
    injection h with h
    subst h
    refine ⟨_, rfl, ?_⟩
    simp only [binOp, ne_eq, not_true, if_false, Op.intArith, Op.intBits, Op.intCmp, intEq_spec]
    rfl
theorem run_shift {op : BinOp} {k k' : IntKind} {x y : Int} {v : AV} (h : shiftA op k x y = some v) (hop : op = .shl ∨ op = .shr) (ty : TypeId) : ∃ V, den ν v = some V ∧ (binOp op ty (.int k x) (.int k' y)).run P w = .ok V w := by
  unfold shiftA at h
  split at h
  · cases h
  · rename_i hy
    have hy : ¬ y < 0 := by simpa using hy
    rcases hop with rfl | rfl <;> simp only [Option.some.injEq] at h <;> subst h <;> refine ⟨_, rfl, ?_⟩ <;> simp only [binOp, Op.shift, if_neg hy] <;> rfl
theorem run_strBin {op : BinOp} {x y : List UInt8} {v : AV} (h : strBinA op x y = some v) (ty : TypeId) : ∃ V, den ν v = some V ∧ (binOp op ty (.string ⟨x.toArray⟩) (.string ⟨y.toArray⟩)).run P w = .ok V w := by
  cases op <;> simp only [strBinA] at h <;> (try (cases h; done))
  case add =>
    split at h
    · cases h
    · rename_i hy
      have hy : ¬ ((x.length + y.length : Nat) : Int) > IntKind.i64.max := by simpa using hy
      injection h with h
      subst h
      refine ⟨_, rfl, ?_⟩
      have e : ((ByteArray.mk x.toArray).size + (ByteArray.mk y.toArray).size : Nat) = x.length + y.length := rfl
      simp only [binOp, Op.stringOp, e, if_neg hy, ba_append]
      rfl
  all_goals
    injection h with h
    subst h
    refine ⟨_, rfl, ?_⟩
    simp only [binOp, Op.stringOp, ba_toList, bytesEq_spec, bytesLt_spec]
    rfl

theorem eqFieldsA_sound {D : Nat} {E : TypeId → AV → AV → Option Bool} (hE : ∀ t x y b X Y, E t x y = some b → den ν x = some X → den ν y = some Y → (Op.equalIn D t X Y).run P w = .ok b w) {xs ys : List AV} {XS YS : List Value}
    (hx : denL ν xs = some XS) (hy : denL ν ys = some YS) : ∀ (fs : List Field) {b : Bool}, eqFieldsA P E xs ys fs = some b →
    (forIn fs ((none : Option Bool), ()) fun f __s => if f.name ≠ "_" then
        (part f.type XS.toArray f.offset).bind fun x => (part f.type YS.toArray f.offset).bind fun y => (Op.equalIn D f.type x y).bind fun b =>
          if (!b) = true then (pure (ForInStep.done (some false, ())) : Sem _) else pure (ForInStep.yield (none, ()))
      else pure (ForInStep.yield (none, ()))).run P w = .ok (if b then (none, ()) else (some false, ())) w
  | [], b, h => by
    simp only [eqFieldsA, Option.some.injEq] at h
    subst h
    rfl
  | f :: fs, b, h => by
    unfold eqFieldsA at h
    rw [List.forIn_cons]
    show (Sem.bind _ _).run P w = _
    rw [run_bind]
    split at h
    · rename_i hn
      have hn : ¬ (f.name ≠ "_") := by simpa using hn
      rw [if_neg hn]
      exact eqFieldsA_sound hE hx hy fs h
    · rename_i hn
      have hn : f.name ≠ "_" := by simpa using hn
      rw [if_pos hn]
      split at h
      · rename_i x y h1 h2
        obtain ⟨X, hX, r1⟩ := run_part (P := P) (w := w) hx h1
        obtain ⟨Y, hY, r2⟩ := run_part (P := P) (w := w) hy h2
        rw [run_bind, r1]
        simp only []
        rw [run_bind, r2]
        simp only []
        split at h
        · rename_i he
          rw [run_bind, hE _ _ _ _ _ _ he hX hY]
          exact eqFieldsA_sound hE hx hy fs h
        · rename_i he
          rw [run_bind, hE _ _ _ _ _ _ he hX hY]
          injection h with h
          subst h
          rfl
        · cases h
      · cases h
theorem eqElemsA_sound {D : Nat} {e : TypeId} {size : Nat} {E : AV → AV → Option Bool} (hE : ∀ x y b X Y, E x y = some b → den ν x = some X → den ν y = some Y → (Op.equalIn D e X Y).run P w = .ok b w) {xs ys : List AV} {XS YS : List Value}
    (hx : denL ν xs = some XS) (hy : denL ν ys = some YS) : ∀ (n i : Nat) {b : Bool}, eqElemsA P E e size xs ys n i = some b →
    (forIn (List.range' i n) ((none : Option Bool), ()) fun i __s =>
        (part e XS.toArray (i * size)).bind fun x => (part e YS.toArray (i * size)).bind fun y => (Op.equalIn D e x y).bind fun b =>
          if (!b) = true then (pure (ForInStep.done (some false, ())) : Sem _) else pure (ForInStep.yield (none, ()))).run P w = .ok (if b then (none, ()) else (some false, ())) w
  | 0, i, b, h => by
    simp only [eqElemsA, Option.some.injEq] at h
    subst h
    rfl
  | n + 1, i, b, h => by
    unfold eqElemsA at h
    rw [List.range'_succ, List.forIn_cons]
    show (Sem.bind _ _).run P w = _
    rw [run_bind]
    split at h
    · rename_i x y h1 h2
      obtain ⟨X, hX, r1⟩ := run_part (P := P) (w := w) hx h1
      obtain ⟨Y, hY, r2⟩ := run_part (P := P) (w := w) hy h2
      rw [run_bind, r1]
      simp only []
      rw [run_bind, r2]
      simp only []
      split at h
      · rename_i he
        rw [run_bind, hE _ _ _ _ _ he hX hY]
        exact eqElemsA_sound hE hx hy n (i + 1) h
      · rename_i he
        rw [run_bind, hE _ _ _ _ _ he hX hY]
        injection h with h
        subst h
        rfl
      · cases h
    · cases h

theorem eqA_sound : ∀ (d D : Nat) (t : TypeId) (x y : AV) (b : Bool) (X Y : Value), d ≤ D → eqA P d t x y = some b → den ν x = some X → den ν y = some Y → (Op.equalIn D t X Y).run P w = .ok b w
  | 0, _, _, _, _, _, _, _, _, h, _, _ => by simp [eqA] at h
  | d + 1, 0, _, _, _, _, _, _, hd, _, _, _ => by omega
  | d + 1, D + 1, t, x, y, b, X, Y, hd, h, hX, hY => by
    have ih := fun (t : TypeId) (x y : AV) (b : Bool) (X Y : Value) => eqA_sound d D t x y b X Y (by omega)
    have go : ∀ {ds : TypeDesc} {s : TypeDesc → Sem Bool}, P.underlying t = some ds → (s ds).run P w = .ok b w → (Sem.bind (underlying t) s).run P w = .ok b w := fun hu hs => by
      rw [run_bind, run_underlying hu]; exact hs
    unfold eqA at h
    split at h
    · rename_i hu
      split at h
      · rename_i a c
        injection h with h
        simp only [den, Option.some.injEq] at hX hY
        subst hX hY h
        exact go hu rfl
      · cases h
    · rename_i k hu
      split at h
      · rename_i k a k' c
        split at h
        · rename_i hk
          have := kindEq_spec hk
          injection h with h
          simp only [den, Option.some.injEq] at hX hY
          subst hX hY h this
          refine go hu ?_
          simp only [if_true, intEq_spec]
          rfl
        · cases h
      · cases h
    · rename_i hu
      split at h
      · rename_i a c
        injection h with h
        simp only [den, Option.some.injEq] at hX hY
        subst hX hY h
        refine go hu ?_
        have e : ((ByteArray.mk a.toArray) == (ByteArray.mk c.toArray)) = (a == c) := by
          show (a.toArray == c.toArray) = _
          simp
        simp only [bytesEq_spec, e]
        rfl
      · cases h
    · rename_i el hu
      split at h
      · injection h with h
        simp only [den, Option.some.injEq] at hX hY
        subst hX hY h
        exact go hu rfl
      · injection h with h
        obtain ⟨g, _, rfl⟩ := ptr_den hY
        simp only [den, Option.some.injEq] at hX
        subst hX h
        exact go hu rfl
      · injection h with h
        obtain ⟨g, _, rfl⟩ := ptr_den hX
        simp only [den, Option.some.injEq] at hY
        subst hY h
        exact go hu rfl
      · cases h
    · rename_i el hu
      split at h
      · injection h with h
        simp only [den, Option.some.injEq] at hX hY
        subst hX hY h
        exact go hu rfl
      · injection h with h
        obtain ⟨g, n, _, _, _, rfl⟩ := slice_den hY
        simp only [den, Option.some.injEq] at hX
        subst hX h
        exact go hu rfl
      · injection h with h
        obtain ⟨g, n, _, _, _, rfl⟩ := slice_den hX
        simp only [den, Option.some.injEq] at hY
        subst hY h
        exact go hu rfl
      · cases h
    · rename_i el hu
      split at h
      · injection h with h
        simp only [den, Option.some.injEq] at hX hY
        subst hX hY h
        exact go hu rfl
      · injection h with h
        obtain ⟨g, _, rfl⟩ := map_den hY
        simp only [den, Option.some.injEq] at hX
        subst hX h
        exact go hu rfl
      · injection h with h
        obtain ⟨g, _, rfl⟩ := map_den hX
        simp only [den, Option.some.injEq] at hY
        subst hY h
        exact go hu rfl
      · cases h
    · rename_i hu
      split at h
      · injection h with h
        simp only [den, Option.some.injEq] at hX hY
        subst hX hY h
        exact go hu rfl
      · injection h with h
        obtain ⟨g, _, _, _, _, _, rfl⟩ := func_den hY
        simp only [den, Option.some.injEq] at hX
        subst hX h
        exact go hu rfl
      · injection h with h
        obtain ⟨g, _, _, _, _, _, rfl⟩ := func_den hX
        simp only [den, Option.some.injEq] at hY
        subst hY h
        exact go hu rfl
      · cases h
    · rename_i fields hu
      split at h
      · rename_i xs ys
        obtain ⟨XS, hxs, rfl⟩ := agg_den hX
        obtain ⟨YS, hys, rfl⟩ := agg_den hY
        split at h
        · cases h
        · rename_i hs
          rw [Op.equalIn]
          show (Sem.bind (underlying t) _).run P w = _
          rw [run_bind, run_underlying hu]
          simp only [program, bind, Sem.bind, Sem.run, hs]
          have := eqFieldsA_sound (P := P) (w := w) (D := D) (fun t x y b X Y => ih t x y b X Y) hxs hys fields.toList h
          rw [if_neg (by simp), run_bind]
          rw [← Array.forIn_toList, this]
          cases b <;> rfl
      · cases h
    · rename_i len el hu
      split at h
      · rename_i xs ys
        obtain ⟨XS, hxs, rfl⟩ := agg_den hX
        obtain ⟨YS, hys, rfl⟩ := agg_den hY
        split at h
        · rename_i n hn
          rw [Op.equalIn]
          show (Sem.bind (underlying t) _).run P w = _
          rw [run_bind, run_underlying hu]
          simp only [bind]
          rw [run_bind, run_sizeT hn]
          simp only []
          have := eqElemsA_sound (P := P) (w := w) (D := D) (e := el) (size := n) (fun x y b X Y => ih el x y b X Y) hxs hys len 0 h
          rw [run_bind, Std.Legacy.Range.forIn_eq_forIn_range']
          simp only [Std.Legacy.Range.size, Nat.sub_zero, Nat.add_sub_cancel, Nat.div_one]
          rw [this]
          cases b <;> rfl
        · cases h
      · cases h
    · cases h
end

end Go.Proofs.YtlijlapkhimaoaaGreatDoor
