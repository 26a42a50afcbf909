/- The evaluator, 7: copying, maps. No program in sight. -/
import Derived.Test.YtlijlapkhimaoaaGreatDoorE6
namespace Go.Proofs.YtlijlapkhimaoaaGreatDoor
open Go Go.RowKit

section
variable {P : Program} {w0 w : World} {A : Anch} {ν : Nm} {s : St}

theorem copyA_rel (h : WRel P w0 A ν s w) {t tx ty : TypeId} {x y v : AV} {X Y : Value} {s' : St} (ha : copyA P s t x y = some (v, s')) (hx : den ν x = some X) (hy : den ν y = some Y) :
    OpOk P w0 A ν s' v ((Builtin.copy_ #[t, tx] ty #[X, Y]).run P w) := by
  unfold copyA at ha
  split at ha
  · rename_i e ht
    split at ha
    · rename_i size xl yl hs hxl hyl
      simp only at ha
      split at ha
      · cases ha
      · rename_i cs hcs
        split at ha
        · cases ha
        · rename_i hlen
          have hlen := Nat.eq_of_beq_eq_true hlen
          obtain ⟨CS, c1, c2, c3, c4⟩ := slice_cells (P := P) h hy hcs hyl hlen
          have hmin : selN (Nat.ble yl xl) yl xl = Nat.min yl xl := by
            cases hb : Nat.ble yl xl with
            | true => exact (Nat.min_eq_left (Nat.le_of_ble_eq_true hb)).symm
            | false => exact (Nat.min_eq_right (by rcases Nat.le_total yl xl with h1 | h1; rw [Nat.ble_eq_true_of_le h1] at hb; cases hb; exact h1)).symm
          rw [hmin] at ha
          have run_ : ∀ (base : Option Addr) (cap : Nat) (k : Unit → World → Result Value), (Builtin.copy_ #[t, tx] ty #[.slice base xl cap, Y]).run P w =
              (match base with
                | some a => ((storeCells a (CS.take (Nat.min yl xl * size)) 0).bind fun _ => pure (goInt (Nat.min yl xl))).run P w
                | none => .ok (goInt (Nat.min yl xl)) w) := fun base cap _ => by
            unfold Builtin.copy_
            simp only [List.getElem?_toArray, List.getElem?_cons_zero, List.getElem?_cons_succ]
            show (Sem.bind (underlying t) _).run P w = _
            rw [run_bind, run_underlying ht]
            simp only []
            show (Sem.bind (Builtin.lenOf Y) _).run P w = _
            rw [run_bind, c3 w]
            show (Sem.bind (sizeOf e) _).run P w = _
            rw [run_bind, run_sizeT hs]
            show (Sem.bind (Builtin.firstCells size (Nat.min yl xl) Y) _).run P w = _
            rw [run_bind, c4 (Nat.min yl xl) (Nat.min_le_left _ _) w (fun _ _ => rfl)]
            cases base <;> rfl
          cases x <;> (try simp only at ha) <;> try (cases ha; done)
          case nslice =>
            simp only [lenS, Option.some.injEq] at hxl
            subst hxl
            simp only [den, Option.some.injEq, Prod.mk.injEq] at hx ha
            subst hx
            obtain ⟨rfl, rfl⟩ := ha
            refine ⟨ν, _, w, Nm.le.refl _, h, ?_, run_ none 0 (fun _ w => .ok undef w)⟩
            simp [den, i64, goInt]
          case slice i off n c =>
            simp only [lenS, Option.some.injEq] at hxl
            subst hxl
            obtain ⟨g, C, hg, hC, hle, rfl⟩ := slice_den hx
            split at ha
            · rename_i s2 hst
              simp only [Option.some.injEq, Prod.mk.injEq] at ha
              obtain ⟨rfl, rfl⟩ := ha
              obtain ⟨r1, r2, _⟩ := putCells_rel (P := P) h hst hg (denL_take _ c1)
              refine ⟨ν, _, _, Nm.le.refl _, r1, rfl, ?_⟩
              rw [run_ (some ⟨g, off, none⟩) C (fun _ w => .ok undef w)]
              simp only []
              rw [run_bind, r2]
              rfl
            · cases ha
    · cases ha
  · cases ha

/-! ### maps -/
theorem fitsKind_den {d : TypeDesc} {v : AV} (h : fitsKind d v = true) : flatKind d = true ∧ oneA v = true := by
  cases d <;> cases v <;> first | (cases h; done) | exact ⟨rfl, rfl⟩
theorem run_check1 {b : Bool} {n : Nat} {t : TypeId} {d : TypeDesc} (hu : P.underlying t = some d) (hd : flatKind d = true) (V : Value) : (Instr.checkKey b (n + 1) t V).run P w = .ok () w := by
  rw [Instr.checkKey]
  show (Sem.bind (underlying t) _).run P w = _
  rw [run_bind, run_underlying hu]
  cases d <;> first | (cases hd; done) | rfl
theorem run_checkFields {b : Bool} {n : Nat} {CS : List Value} {l : List AV} (hl : denL ν l = some CS) : ∀ (fs : List Field) (i : Nat), flatFields P fs i = true → fitsFields P fs (l.drop i) = true →
    (forIn fs PUnit.unit fun f (_ : PUnit) => if f.name ≠ "_" then (part f.type CS.toArray f.offset).bind fun x => (Instr.checkKey b (n + 1) f.type x).bind fun _ => (pure (ForInStep.yield PUnit.unit) : Sem _) else pure (ForInStep.yield PUnit.unit)).run P w = .ok PUnit.unit w
  | [], i, _, _ => rfl
  | f :: fs, i, h1, h2 => by
    unfold flatFields at h1
    simp only [Bool.and_eq_true] at h1
    obtain ⟨⟨⟨a1, a2⟩, a3⟩, a4⟩ := h1
    have a1 := Nat.eq_of_beq_eq_true a1
    have hne : f.name ≠ "_" := by simpa using a2
    rw [List.forIn_cons]
    show (Sem.bind _ _).run P w = _
    rw [run_bind, if_pos hne]
    split at a3
    · rename_i d hd
      cases hdrop : l.drop i with
      | nil => rw [hdrop] at h2; simp [fitsFields] at h2
      | cons v vs =>
        rw [hdrop] at h2
        simp only [fitsFields, Bool.and_eq_true] at h2
        have hli : l[i]? = some v := by
          have : (l.drop i)[0]? = some v := by rw [hdrop]; rfl
          simpa using this
        have hag : isAggT P f.type = some false := by unfold isAggT; rw [hd]; cases d <;> first | rfl | cases a3
        have hp : partA P f.type l f.offset = some v := by unfold partA; rw [hag]; simp only; rw [a1]; exact hli
        obtain ⟨V, _, r⟩ := run_part (P := P) (w := w) hl hp
        rw [run_bind, r]
        simp only []
        rw [run_bind, run_check1 hd a3]
        simp only []
        have hdr : l.drop (i + 1) = vs := by rw [← List.drop_drop, hdrop]; rfl
        exact run_checkFields hl fs (i + 1) a4 (by rw [hdr]; exact h2.2)
    · cases a3
theorem flatPart {e : TypeId} {d : TypeDesc} (hd : P.underlying e = some d) (hf : flatKind d = true) (l : List AV) (i : Nat) : partA P e l i = l[i]? := by
  have hag : isAggT P e = some false := by unfold isAggT; rw [hd]; cases d <;> first | rfl | cases hf
  unfold partA
  rw [hag]
theorem run_checkElems {b : Bool} {n : Nat} {e : TypeId} {d : TypeDesc} {inf : TypeInfo} (hd : P.underlying e = some d) (hf : flatKind d = true) (hi : P.info? e = some inf) (h1 : inf.size = 1) {CS : List Value} {l : List AV} (hl : denL ν l = some CS) : ∀ (m i : Nat), i + m ≤ l.length →
    (forIn (List.range' i m) PUnit.unit fun i (_ : PUnit) => (sizeOf e).bind fun s => (part e CS.toArray (i * s)).bind fun x => (Instr.checkKey b (n + 1) e x).bind fun _ => (pure (ForInStep.yield PUnit.unit) : Sem _)).run P w = .ok PUnit.unit w
  | 0, i, _ => rfl
  | m + 1, i, h => by
    rw [List.range'_succ, List.forIn_cons]
    show (Sem.bind _ _).run P w = _
    rw [run_bind, run_bind, run_sizeOf hi]
    simp only [h1, Nat.mul_one]
    have hp : partA P e l i = some l[i] := by rw [flatPart hd hf]; exact List.getElem?_eq_getElem (by omega)
    obtain ⟨V, _, r⟩ := run_part (P := P) (w := w) hl hp
    rw [run_bind, r]
    simp only []
    rw [run_bind, run_check1 hd hf]
    simp only []
    exact run_checkElems (b := b) (n := n) hd hf hi h1 hl m (i + 1) (by omega)
theorem run_checkKey {b : Bool} {n : Nat} {t : TypeId} {k : AV} {K : Value} (hf : (flatT P t && keyOk P t k) = true) (hk : den ν k = some K) : (Instr.checkKey b (n + 2) t K).run P w = .ok () w := by
  simp only [Bool.and_eq_true] at hf
  obtain ⟨h1, h2⟩ := hf
  unfold flatT at h1
  unfold keyOk at h2
  split at h1
  · rename_i fields hu
    simp only [Bool.and_eq_true] at h1
    rw [hu] at h2
    cases k with
    | agg l =>
      simp only at h2
      obtain ⟨CS, hl, rfl⟩ := agg_den hk
      rw [Instr.checkKey]
      show (Sem.bind (underlying t) _).run P w = _
      rw [run_bind, run_underlying hu]
      show (Sem.bind (forIn fields PUnit.unit _ : Sem _) _).run P w = _
      rw [run_bind, ← Array.forIn_toList]
      have := run_checkFields (P := P) (w := w) (n := n) (b := b) hl fields.toList 0 h1.2 (by simpa using h2)
      simp only [bind] at this ⊢
      rw [this]
      rfl
    | _ => simp [fitsKind] at h2
  · rename_i m e hu
    simp only [Bool.and_eq_true] at h1
    rw [hu] at h2
    cases k with
    | agg l =>
      simp only [Bool.and_eq_true] at h2
      obtain ⟨h1a, h1b⟩ := h1
      split at h1a
      · rename_i s hs
        have h1a := Nat.eq_of_beq_eq_true h1a
        obtain ⟨inf, hi, rfl⟩ := sizeT_spec hs
        split at h1b
        · rename_i d hd
          obtain ⟨CS, hl, rfl⟩ := agg_den hk
          rw [Instr.checkKey]
          show (Sem.bind (underlying t) _).run P w = _
          rw [run_bind, run_underlying hu]
          show (Sem.bind (forIn [0:m] PUnit.unit _ : Sem _) _).run P w = _
          rw [run_bind, Std.Legacy.Range.forIn_eq_forIn_range']
          have := run_checkElems (P := P) (w := w) (n := n) (b := b) hd h1b hi h1a hl m 0 (by rw [Nat.eq_of_beq_eq_true h2.1]; omega)
          simp only [bind] at this ⊢
          have e : Std.Legacy.Range.size [0:m] = m := by simp [Std.Legacy.Range.size]
          rw [e]
          rw [this]
          rfl
        · cases h1b
      · cases h1a
    | _ => simp [fitsKind] at h2
  · rename_i d hd hna hns
    exact run_check1 hns h1 K
  · cases h1

theorem sameBitsA_spec {d : TypeDesc} {x y : AV} (hx : fitsKind d x = true) (hy : fitsKind d y = true) {b : Bool} (hb : sameBitsA x y = b) (n : Nat) : ∀ {t : TypeId}, P.underlying t = some d → eqA P (n + 1) t x y = some b := fun {t} hu => by
  subst hb
  cases d <;> cases x <;> first | (cases hx; done) | skip
  all_goals cases y <;> first | (cases hy; done) | skip
  · simp [eqA, hu, sameBitsA]
  · rename_i k k1 a k2 c
    have h1 := kindEq_spec hx
    have h2 := kindEq_spec hy
    subst h1 h2
    simp only [eqA, hu, sameBitsA]
    have : kindEq k k = true := by cases k <;> rfl
    simp [this]
  · simp [eqA, hu, sameBitsA]
theorem eqFields_flat {n : Nat} {l m : List AV} : ∀ (fs : List Field) (i : Nat), flatFields P fs i = true → fitsFields P fs (l.drop i) = true → fitsFields P fs (m.drop i) = true → eqFieldsA P (eqA P (n + 1)) l m fs = some (sameBitsL (l.drop i) (m.drop i))
  | [], i, _, h2, h3 => by
    have e1 : l.drop i = [] := by cases hl : l.drop i with | nil => rfl | cons v vs => rw [hl] at h2; simp [fitsFields] at h2
    have e2 : m.drop i = [] := by cases hl : m.drop i with | nil => rfl | cons v vs => rw [hl] at h3; simp [fitsFields] at h3
    rw [e1, e2]
    rfl
  | f :: fs, i, h1, h2, h3 => by
    unfold flatFields at h1
    simp only [Bool.and_eq_true] at h1
    obtain ⟨⟨⟨a1, a2⟩, a3⟩, a4⟩ := h1
    have a1 := Nat.eq_of_beq_eq_true a1
    split at a3
    · rename_i d hd
      cases hl : l.drop i with
      | nil => rw [hl] at h2; simp [fitsFields] at h2
      | cons v vs =>
        cases hm : m.drop i with
        | nil => rw [hm] at h3; simp [fitsFields] at h3
        | cons u us =>
          rw [hl] at h2
          rw [hm] at h3
          simp only [fitsFields, Bool.and_eq_true, hd] at h2 h3
          have hli : l[i]? = some v := by have : (l.drop i)[0]? = some v := by rw [hl]; rfl
                                          simpa using this
          have hmi : m[i]? = some u := by have : (m.drop i)[0]? = some u := by rw [hm]; rfl
                                          simpa using this
          have hag : isAggT P f.type = some false := by unfold isAggT; rw [hd]; cases d <;> first | rfl | cases a3
          have hp1 : partA P f.type l f.offset = some v := by unfold partA; rw [hag]; simp only; rw [a1]; exact hli
          have hp2 : partA P f.type m f.offset = some u := by unfold partA; rw [hag]; simp only; rw [a1]; exact hmi
          have hv := sameBitsA_spec (P := P) h2.1 h3.1 rfl n hd
          have ih := eqFields_flat (n := n) fs (i + 1) a4 (by rw [← List.drop_drop, hl]; exact h2.2) (by rw [← List.drop_drop, hm]; exact h3.2)
          rw [← List.drop_drop, hl, ← List.drop_drop, hm] at ih
          unfold eqFieldsA
          have hn : (f.name == "_") = false := by simpa using a2
          rw [hn]
          simp only [hp1, hp2, hv, sameBitsL]
          cases sameBitsA v u with
          | true => exact ih
          | false => rfl
    · cases a3
theorem eqElems_flat {e : TypeId} {d : TypeDesc} (hd : P.underlying e = some d) (hf : flatKind d = true) (l m : List AV) : ∀ (n i : Nat), i + n = l.length → i + n = m.length → l.all (fitsKind d) = true → m.all (fitsKind d) = true →
    eqElemsA P (eqA P 1 e) e 1 l m n i = some (sameBitsL (l.drop i) (m.drop i))
  | 0, i, h1, h2, _, _ => by
    rw [List.drop_eq_nil_of_le (by omega), List.drop_eq_nil_of_le (by omega)]
    rfl
  | n + 1, i, h1, h2, h3, h4 => by
    have hi1 : i < l.length := by omega
    have hi2 : i < m.length := by omega
    unfold eqElemsA
    simp only [Nat.mul_one, flatPart hd hf, List.getElem?_eq_getElem hi1, List.getElem?_eq_getElem hi2]
    have e1 := List.all_eq_true.1 h3 l[i] (List.getElem_mem hi1)
    have e2 := List.all_eq_true.1 h4 m[i] (List.getElem_mem hi2)
    rw [sameBitsA_spec (P := P) e1 e2 rfl 0 hd, List.drop_eq_getElem_cons hi1, List.drop_eq_getElem_cons hi2]
    simp only [sameBitsL]
    cases sameBitsA l[i] m[i] with
    | true => exact eqElems_flat hd hf l m n (i + 1) (by omega) (by omega) h3 h4
    | false => rfl
/-- are two keys one? -/
theorem keyEq_eqA {t : TypeId} {k k' : AV} (hf : (flatT P t && keyOk P t k) = true) (hk' : keyOk P t k' = true) {b : Bool} (h : keyEq k k' = some b) : eqA P 2 t k k' = some b := by
  simp only [Bool.and_eq_true] at hf
  obtain ⟨h1, h2⟩ := hf
  unfold flatT at h1
  unfold keyOk at h2 hk'
  split at h1
  · rename_i fields hu
    simp only [Bool.and_eq_true, Bool.not_eq_true'] at h1
    rw [hu] at h2 hk'
    cases k with
    | agg l =>
      cases k' with
      | agg m =>
        simp only at h2 hk'
        simp only [keyEq, Option.some.injEq] at h
        subst h
        unfold eqA
        simp only [hu, h1.1]
        have := eqFields_flat (P := P) (n := 0) (l := l) (m := m) fields.toList 0 h1.2 (by simpa using h2) (by simpa using hk')
        simpa using this
      | _ => simp [fitsKind] at hk'
    | _ => simp [fitsKind] at h2
  · rename_i m e hu
    simp only [Bool.and_eq_true] at h1
    rw [hu] at h2 hk'
    cases k with
    | agg l =>
      cases k' with
      | agg l' =>
        simp only [Bool.and_eq_true] at h2 hk'
        simp only [keyEq, Option.some.injEq] at h
        subst h
        obtain ⟨h1a, h1b⟩ := h1
        split at h1a
        · rename_i s hs
          have h1a := Nat.eq_of_beq_eq_true h1a
          subst h1a
          split at h1b
          · rename_i d hd
            rw [hd] at h2 hk'
            unfold eqA
            simp only [hu, hs]
            have := eqElems_flat (P := P) hd h1b l l' m 0 (by rw [Nat.eq_of_beq_eq_true h2.1]; omega) (by rw [Nat.eq_of_beq_eq_true hk'.1]; omega) h2.2 hk'.2
            rw [this]
            simp
          · cases h1b
        · cases h1a
      | _ => simp [fitsKind] at hk'
    | _ => simp [fitsKind] at h2
  · rename_i d hd hna hns
    rw [hns] at h2 hk'
    have e2 : fitsKind d k = true := by
      cases d <;> first | (cases h1; done) | exact h2
    have e3 : fitsKind d k' = true := by
      cases d <;> first | (cases h1; done) | exact hk'
    refine sameBitsA_spec (P := P) e2 e3 ?_ 1 hns
    cases d <;> cases k <;> first | (cases e2; done) | skip
    all_goals cases k' <;> first | (cases e3; done) | skip
    · simp only [keyEq, Option.some.injEq] at h; exact h
    · rename_i kk k1 a k2 c
      have q1 := kindEq_spec e2
      have q2 := kindEq_spec e3
      subst q1 q2
      have : kindEq kk kk = true := by cases kk <;> rfl
      simp only [keyEq, this, Option.some.injEq] at h
      simp only [sameBitsA, this, Bool.true_and]
      exact h
    · simp only [keyEq, Option.some.injEq] at h; exact h
  · cases h1

/-- one key, twice: nothing is asked of the tape -/
theorem sameBitsL_spec : ∀ {l m : List AV} {L M : List Value}, sameBitsL l m = true → denL ν l = some L → denL ν m = some M → L = M
  | [], [], L, M, _, h1, h2 => by rw [denL_nil h1, denL_nil h2]
  | a :: x, b :: y, _, _, h, h1, h2 => by
    obtain ⟨V, R, v1, v2, rfl⟩ := denL_cons h1
    obtain ⟨U, S, u1, u2, rfl⟩ := denL_cons h2
    simp only [sameBitsL] at h
    split at h
    · rename_i hs
      rw [sameBitsL_spec h v2 u2]
      congr 1
      cases a <;> cases b <;> simp only [sameBitsA] at hs <;> try (cases hs; done)
      · simp only [den, Option.some.injEq] at v1 u1
        subst v1 u1
        simpa using hs
      · simp only [Bool.and_eq_true, intEq_spec] at hs
        have := kindEq_spec hs.1
        simp only [den, Option.some.injEq] at v1 u1
        subst v1 u1 this
        simpa using hs.2
      · simp only [den, Option.some.injEq] at v1 u1
        subst v1 u1
        rw [bytesEq_spec] at hs
        simpa using hs
    · cases h
  | [], _ :: _, _, _, h, _, _ => by simp [sameBitsL] at h
  | _ :: _, [], _, _, h, _, _ => by simp [sameBitsL] at h
theorem keyEq_same {k k' : AV} {K K' : Value} (h : keyEq k k' = some true) (hk : den ν k = some K) (hk' : den ν k' = some K') : K' = K := by
  cases k <;> cases k' <;> simp only [keyEq] at h <;> try (cases h; done)
  · simp only [Option.some.injEq, den] at h hk hk'
    subst hk hk'
    simp at h ⊢
    exact h.symm
  · split at h
    · rename_i hq
      have := kindEq_spec hq
      simp only [Option.some.injEq, den, intEq_spec] at h hk hk'
      subst hk hk' this
      simp at h ⊢
      exact h.symm
    · cases h
  · simp only [Option.some.injEq, den, bytesEq_spec] at h hk hk'
    subst hk hk'
    simp at h ⊢
    exact h.symm
  · obtain ⟨L, hL, rfl⟩ := agg_den hk
    obtain ⟨M, hM, rfl⟩ := agg_den hk'
    simp only [Option.some.injEq] at h
    rw [sameBitsL_spec h hL hM]
/-- a flat value -/
def flatV : Value → Bool
  | .agg cs => cs.toList.all fun c => match c with | .bool _ => true | .int _ _ => true | .string _ => true | _ => false
  | .bool _ => true
  | .int _ _ => true
  | .string _ => true
  | _ => false
theorem sameBits_self {V : Value} (h : flatV V = true) : Instr.sameBits 10000 V V = true := by
  have one : ∀ (n : Nat) (c : Value), (match c with | .bool _ => true | .int _ _ => true | .string _ => true | _ => false) = true → Instr.sameBits n c c = true := fun n c hc => by
    cases c <;> first | (cases hc; done) | skip
    · cases n <;> simp [Instr.sameBits]
    · cases n <;> simp [Instr.sameBits]
    · rename_i b
      have : (b == b) = true := by show (b.data == b.data) = true; simp
      cases n <;> simp [Instr.sameBits, this]
  cases V <;> first | (cases h; done) | exact one _ _ rfl | skip
  rename_i cs
  show Instr.sameBits (9999 + 1) _ _ = true
  unfold Instr.sameBits
  simp only [beq_self_eq_true, Bool.true_and, List.all_eq_true]
  rintro ⟨x, y⟩ hm
  have hxy : x = y := by
    obtain ⟨i, hi⟩ := List.getElem?_of_mem hm
    rw [List.getElem?_zip_eq_some] at hi
    have := hi.1.symm.trans hi.2
    injection this
  subst hxy
  have hx : x ∈ cs.toList := (List.of_mem_zip hm).1
  simp only [flatV, List.all_eq_true] at h
  exact one _ _ (h x hx)
theorem keyEq_flat {k k' : AV} {K : Value} (h : keyEq k k' = some true) (hk : den ν k = some K) : flatV K = true := by
  cases k <;> cases k' <;> simp only [keyEq] at h <;> try (cases h; done)
  · simp only [den, Option.some.injEq] at hk; subst hk; rfl
  · simp only [den, Option.some.injEq] at hk; subst hk; rfl
  · simp only [den, Option.some.injEq] at hk; subst hk; rfl
  · rename_i l m
    obtain ⟨L, hL, rfl⟩ := agg_den hk
    simp only [Option.some.injEq] at h
    have : ∀ (l m : List AV) (L : List Value), sameBitsL l m = true → denL ν l = some L → (L.all fun c => match c with | .bool _ => true | .int _ _ => true | .string _ => true | _ => false) = true := by
      intro l
      induction l with
      | nil => intro m L _ hL; rw [denL_nil hL]; rfl
      | cons a x ih =>
        intro m L hs hL
        obtain ⟨V, R, v1, v2, rfl⟩ := denL_cons hL
        cases m with
        | nil => simp [sameBitsL] at hs
        | cons b y =>
          simp only [sameBitsL] at hs
          split at hs
          · rename_i hq
            simp only [List.all_cons, Bool.and_eq_true]
            refine ⟨?_, ih y R hs v2⟩
            cases a <;> cases b <;> simp only [sameBitsA] at hq <;> try (cases hq; done)
            all_goals simp only [den, Option.some.injEq] at v1; subst v1; rfl
          · cases hs
    simpa [flatV] using this l m L h hL

/-- what is found -/
def FRes (ν : Nm) (k : AV) (ES : List MapEntry) (i : Nat) : Option (Nat × AV × Nat) → Option (Nat × Value) → Prop
  | none, r => r = none
  | some (j, v, b), r => ∃ m, i ≤ j ∧ ES[j - i]? = some m ∧ r = some (j, m.val) ∧ den ν v = some m.val ∧ m.born = b ∧ (∀ K, den ν k = some K → m.key = K ∧ flatV K = true)
theorem FRes.step {k : AV} {ES : List MapEntry} {m : MapEntry} {i : Nat} {r : Option (Nat × AV × Nat)} {R : Option (Nat × Value)} (h : FRes ν k ES (i + 1) r R) : FRes ν k (m :: ES) i r R := by
  cases r with
  | none => exact h
  | some p =>
    obtain ⟨j, v, b⟩ := p
    obtain ⟨m', h1, h2, h3⟩ := h
    refine ⟨m', by omega, ?_, h3⟩
    have : j - i = (j - (i + 1)) + 1 := by omega
    rw [this]
    simpa using h2
theorem findA_rel {kt : TypeId} {k : AV} {K : Value} (hf : (flatT P kt && keyOk P kt k) = true) (hk : den ν k = some K) : ∀ {es : List (AV × AV × Nat)} {ES : List MapEntry} {i : Nat} {r : Option (Nat × AV × Nat)}, All2 (ERel ν) es ES → findA P kt k es i = some r →
    ∃ R, FRes ν k ES i r R ∧ (Instr.findAsking kt K ES i).run P w = .ok R w ∧ (∀ d, P.underlying kt = some d → flatKind d = true → Instr.findNow d K ES i = some R)
  | [], [], i, r, _, h => by
    simp only [findA, Option.some.injEq] at h
    subst h
    exact ⟨none, rfl, rfl, fun _ _ _ => rfl⟩
  | (k', v, b) :: es, m :: ES, i, r, ⟨⟨e1, e2, e3⟩, hes⟩, h => by
    simp only at e1 e2 e3
    unfold findA at h
    have now_ : ∀ {q : Bool}, keyOk P kt k' = true → keyEq k k' = some q → ∀ d, P.underlying kt = some d → flatKind d = true → Instr.sameNow d K m.key = some q := fun {q} ho hq d hd hfl => by
      have hko : keyOk P kt k = true := by simp only [Bool.and_eq_true] at hf; exact hf.2
      unfold keyOk at hko ho
      rw [hd] at hko ho
      cases d <;> first | (cases hfl; done) | skip
      all_goals
        cases k <;> first | (cases hko; done) | skip
      all_goals
        cases k' <;> first | (cases ho; done) | skip
      · simp only [den, Option.some.injEq] at hk e1
        rw [← hk, ← e1]
        simp only [keyEq, Option.some.injEq] at hq
        simp only [Instr.sameNow, hq]
      · rename_i kk k1 a k2 c
        have q1 := kindEq_spec hko
        have q2 := kindEq_spec ho
        subst q1 q2
        simp only [den, Option.some.injEq] at hk e1
        rw [← hk, ← e1]
        have : kindEq kk kk = true := by cases kk <;> rfl
        simp only [keyEq, this, Option.some.injEq, intEq_spec] at hq
        simp only [Instr.sameNow, if_true, hq]
      · simp only [den, Option.some.injEq] at hk e1
        rw [← hk, ← e1]
        simp only [keyEq, Option.some.injEq, bytesEq_spec] at hq
        simp only [Instr.sameNow, Option.some.injEq]
        rw [← hq]
        rename_i aa bb
        show (aa.toArray == bb.toArray) = _
        simp
    split at h
    · rename_i ho hq
      injection h with h
      subst h
      have heq := eqA_sound (P := P) (w := w) 2 Op.maxDepth kt k k' true K m.key (by decide) (keyEq_eqA hf ho hq) hk e1
      refine ⟨some (i, m.val), ⟨m, Nat.le_refl _, by simp, rfl, e2, e3.symm, fun K' hK' => ?_⟩, ?_, fun d hd hfl => ?_⟩
      · rw [hk] at hK'
        injection hK' with hK'
        subst hK'
        exact ⟨keyEq_same hq hk e1, keyEq_flat hq hk⟩
      · rw [Instr.findAsking]
        show (Sem.bind (Op.equal kt K m.key) _).run P w = _
        rw [run_bind, show (Op.equal kt K m.key).run P w = _ from heq]
        rfl
      · rw [Instr.findNow, now_ ho hq d hd hfl]
    · rename_i ho hq
      obtain ⟨R, h1, h2, h3⟩ := findA_rel hf hk hes h
      have heq := eqA_sound (P := P) (w := w) 2 Op.maxDepth kt k k' false K m.key (by decide) (keyEq_eqA hf ho hq) hk e1
      refine ⟨R, h1.step, ?_, fun d hd hfl => ?_⟩
      · rw [Instr.findAsking]
        show (Sem.bind (Op.equal kt K m.key) _).run P w = _
        rw [run_bind, show (Op.equal kt K m.key).run P w = _ from heq]
        exact h2
      · rw [Instr.findNow, now_ ho hq d hd hfl]
        exact h3 d hd hfl
    · cases h
  | [], _ :: _, _, _, hp, _ => hp.elim
  | _ :: _, [], _, _, hp, _ => hp.elim
theorem run_findKey {kt : TypeId} {k : AV} {K : Value} (hf : (flatT P kt && keyOk P kt k) = true) (hk : den ν k = some K) {es : List (AV × AV × Nat)} {ES : List MapEntry} {r : Option (Nat × AV × Nat)} (he : All2 (ERel ν) es ES) (h : findA P kt k es 0 = some r) :
    ∃ R, FRes ν k ES 0 r R ∧ (Instr.findKey kt K ES).run P w = .ok R w := by
  obtain ⟨R, h1, h2, h3⟩ := findA_rel (P := P) (w := w) hf hk he h
  refine ⟨R, h1, ?_⟩
  unfold Instr.findKey
  simp only [Bool.and_eq_true] at hf
  have hfl := hf.1
  unfold flatT at hfl
  split at hfl
  · rename_i fields hu
    show (Sem.bind (underlying kt) _).run P w = _
    rw [run_bind, run_underlying hu]
    simp only []
    cases ES with
    | nil =>
      have : R = none := by
        cases es with
        | nil => simp only [findA, Option.some.injEq] at h; subst h; exact h1
        | cons _ _ => exact he.elim
      subst this
      rfl
    | cons m ES =>
      have : Instr.findNow (.struct fields) K (m :: ES) 0 = none := by
        rw [Instr.findNow]
        have : Instr.sameNow (.struct fields) K m.key = none := by cases K <;> cases m.key <;> rfl
        rw [this]
      rw [this]
      exact h2
  · rename_i m' e' hu
    show (Sem.bind (underlying kt) _).run P w = _
    rw [run_bind, run_underlying hu]
    simp only []
    cases ES with
    | nil =>
      have : R = none := by
        cases es with
        | nil => simp only [findA, Option.some.injEq] at h; subst h; exact h1
        | cons _ _ => exact he.elim
      subst this
      rfl
    | cons m ES =>
      have : Instr.findNow (.array m' e') K (m :: ES) 0 = none := by
        rw [Instr.findNow]
        have : Instr.sameNow (.array m' e') K m.key = none := by cases K <;> cases m.key <;> rfl
        rw [this]
      rw [this]
      exact h2
  · rename_i d hd hna hns
    show (Sem.bind (underlying kt) _).run P w = _
    rw [run_bind, run_underlying hns]
    simp only []
    rw [h3 d hns hfl]
    rfl
  · cases hfl
end

end Go.Proofs.YtlijlapkhimaoaaGreatDoor
