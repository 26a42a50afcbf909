/- The evaluator, 5: slices, literals, and operations that neither write nor make anything. No program in sight. -/
import Derived.Test.YtlijlapkhimaoaaGreatDoorE4
namespace Go.Proofs.YtlijlapkhimaoaaGreatDoor
open Go Go.RowKit

section
variable {P : Program} {ν : Nm} {w : World}

theorem natOf_spec {v : AV} {n : Nat} (h : natOf v = some n) : ∃ k, v = .int k (.ofNat n) := by
  cases v <;> simp only [natOf] at h <;> try (cases h; done)
  rename_i k m
  cases m with
  | ofNat m => simp only [natOf, Option.some.injEq] at h; subst h; exact ⟨k, rfl⟩
  | negSucc m => simp [natOf] at h
theorem run_sliceBound {k : IntKind} {n y : Nat} (h : n ≤ y) (code : BoundsCode) : (Instr.sliceBound (.int k (.ofNat n)) y code).run P w = .ok n w := by
  unfold Instr.sliceBound
  show (Sem.bind (asIntOf _) _).run P w = _
  rw [run_bind]
  show (if (0 : Int) ≤ Int.ofNat n ∧ (Int.ofNat n : Int) ≤ y then _ else _ : Sem Nat).run P w = _
  rw [if_pos ⟨Int.natCast_nonneg n, Int.ofNat_le.2 h⟩]
  rfl
/-- an operand that may be missing -/
def optD (ν : Nm) : Option AV → Option Value → Prop
  | none, r => r = none
  | some v, r => ∃ V, den ν v = some V ∧ r = some V
theorem capLe_spec {n C : Nat} {c : Cap} (h : capLe n c = true) (hc : capOf ν c = some C) : n ≤ C := by
  cases c with
  | k m => simp only [capOf, Option.some.injEq] at hc; subst hc; exact Nat.le_of_ble_eq_true h
  | u c m => cases h
theorem limB_spec {len C : Nat} {c : Cap} (hc : capOf ν c = some C) (hlen : len ≤ C) {n : Nat} (hn : limB len c n = true) : n ≤ C := by
  unfold limB at hn
  simp only [Bool.or_eq_true] at hn
  rcases hn with hn | hn
  · exact Nat.le_trans (Nat.le_of_ble_eq_true hn) hlen
  · exact capLe_spec hn hc
theorem run_maxB {len C : Nat} {c : Cap} (hc : capOf ν c = some C) (hlen : len ≤ C) {mx : Option AV} {MX : Option Value} (h3 : optD ν mx MX) {m : Option Nat} (h : maxB len c mx = some m) (isS : Bool) {α : Type} (f : Nat → Sem α) :
    (match MX with
        | some v => Sem.bind (Instr.sliceBound v C (if isS then .slice3Acap else .slice3Alen)) f
        | none => Sem.bind (pure C) f).run P w = (f (m.getD C)).run P w ∧ m.getD C ≤ C ∧ (MX = none ↔ m = none) := by
  cases mx with
  | none =>
    simp only [optD] at h3
    simp only [maxB, Option.some.injEq] at h
    subst h3 h
    exact ⟨by rw [run_bind]; rfl, Nat.le_refl _, by simp⟩
  | some v =>
    obtain ⟨V, hV, rfl⟩ := h3
    simp only [maxB] at h
    split at h
    · rename_i n hn
      split at h
      · rename_i hl
        injection h with h
        subst h
        obtain ⟨k, rfl⟩ := natOf_spec hn
        simp only [den, Option.some.injEq] at hV
        subst hV
        have := limB_spec hc hlen hl
        refine ⟨?_, this, by simp⟩
        rw [run_bind, run_sliceBound this]
        rfl
      · cases h
    · cases h
theorem run_hiB {len C : Nat} {c : Cap} (hc : capOf ν c = some C) (hlen : len ≤ C) {hi : Option AV} {HI MX : Option Value} (h2 : optD ν hi HI) {m : Option Nat} (hm : m.getD C ≤ C) (hM : MX = none ↔ m = none) {h' : Nat} (h : hiB len c m hi = some h') (isS : Bool) {α : Type} (f : Nat → Sem α) :
    (match HI, MX with
        | some v, some _ => Sem.bind (Instr.sliceBound v (m.getD C) .slice3B) f
        | some v, none => Sem.bind (Instr.sliceBound v (m.getD C) (if isS then .sliceAcap else .sliceAlen)) f
        | none, none => Sem.bind (pure len) f
        | none, some _ => Sem.bind (stuck "Slice: max without high") f).run P w = (f h').run P w ∧ h' ≤ m.getD C := by
  cases hi with
  | none =>
    simp only [optD] at h2
    subst h2
    cases m with
    | some m => simp [hiB] at h
    | none =>
      have : MX = none := hM.2 rfl
      subst this
      simp only [hiB, Option.some.injEq] at h
      subst h
      exact ⟨by rw [run_bind]; rfl, hlen⟩
  | some v =>
    obtain ⟨V, hV, rfl⟩ := h2
    simp only [hiB] at h
    split at h
    · rename_i n hn
      obtain ⟨k, rfl⟩ := natOf_spec hn
      simp only [den, Option.some.injEq] at hV
      subst hV
      split at h
      · rename_i m
        split at h
        · rename_i hl
          injection h with h
          subst h
          have hl := Nat.le_of_ble_eq_true hl
          cases MX with
          | none => exact absurd (hM.1 rfl) (by simp)
          | some u =>
            simp only [Option.getD_some]
            refine ⟨?_, hl⟩
            rw [run_bind, run_sliceBound hl]
        · cases h
      · split at h
        · rename_i hl
          injection h with h
          subst h
          have hl := limB_spec hc hlen hl
          have : MX = none := hM.2 rfl
          subst this
          simp only [Option.getD_none]
          refine ⟨?_, hl⟩
          rw [run_bind, run_sliceBound hl]
        · cases h
    · cases h
theorem run_loB {h' : Nat} {lo : Option AV} {LO : Option Value} (h1 : optD ν lo LO) {l : Nat} (h : loB h' lo = some l) (code : BoundsCode) {α : Type} (f : Nat → Sem α) :
    (match LO with
        | some v => Sem.bind (Instr.sliceBound v h' code) f
        | none => Sem.bind (pure 0) f).run P w = (f l).run P w ∧ l ≤ h' := by
  cases lo with
  | none =>
    simp only [optD] at h1
    simp only [loB, Option.some.injEq] at h
    subst h1 h
    exact ⟨by rw [run_bind]; rfl, Nat.zero_le _⟩
  | some v =>
    obtain ⟨V, hV, rfl⟩ := h1
    simp only [loB] at h
    split at h
    · rename_i n hn
      split at h
      · rename_i hl
        injection h with h
        subst h
        obtain ⟨k, rfl⟩ := natOf_spec hn
        simp only [den, Option.some.injEq] at hV
        subst hV
        have := Nat.le_of_ble_eq_true hl
        refine ⟨?_, this⟩
        rw [run_bind, run_sliceBound this]
      · cases h
    · cases h
theorem run_bounds {len C : Nat} {c : Cap} (hc : capOf ν c = some C) (hlen : len ≤ C) {lo hi mx : Option AV} {LO HI MX : Option Value} (h1 : optD ν lo LO) (h2 : optD ν hi HI) (h3 : optD ν mx MX) {l h : Nat} {m : Option Nat}
    (hb : boundsA len c lo hi mx = some (l, h, m)) (isS : Bool) : (Instr.sliceBounds isS len C LO HI MX).run P w = .ok (l, h, m.getD C) w ∧ l ≤ h ∧ h ≤ m.getD C ∧ m.getD C ≤ C := by
  unfold boundsA at hb
  split at hb
  · cases hb
  · rename_i m' e1
    split at hb
    · cases hb
    · rename_i h' e2
      split at hb
      · cases hb
      · rename_i l' e3
        simp only [Option.some.injEq, Prod.mk.injEq] at hb
        obtain ⟨rfl, rfl, rfl⟩ := hb
        obtain ⟨_, a2, a3⟩ := run_maxB (P := P) (w := w) hc hlen h3 e1 isS (fun _ => (pure () : Sem Unit))
        obtain ⟨_, b2⟩ := run_hiB (P := P) (w := w) hc hlen h2 a2 a3 e2 isS (fun _ => (pure () : Sem Unit))
        obtain ⟨_, c2⟩ := run_loB (P := P) (w := w) h1 e3 .sliceB (fun _ => (pure () : Sem Unit))
        refine ⟨?_, c2, b2, a2⟩
        unfold Instr.sliceBounds
        refine ((run_maxB hc hlen h3 e1 isS _).1).trans ?_
        refine ((run_hiB hc hlen h2 a2 a3 e2 isS _).1).trans ?_
        exact (run_loB h1 e3 _ _).1

theorem selN_beq {a b : Nat} (x y : Nat) : selN (Nat.beq a b) x y = if a = b then x else y := by
  cases h : Nat.beq a b with
  | true => rw [if_pos (Nat.eq_of_beq_eq_true h)]; rfl
  | false => rw [if_neg (Nat.ne_of_beq_eq_false h)]; rfl
theorem add_if (g off m l n : Nat) : (if m = l then (⟨g, off, none⟩ : Addr) else (⟨g, off, none⟩ : Addr).add (l * n)) = ⟨g, if m = l then off else off + l * n, none⟩ := by
  split
  · rfl
  · rw [addr_add]

theorem run_slice {t : TypeId} {x v : AV} {X : Value} {lo hi mx : Option AV} {LO HI MX : Option Value} (hx : den ν x = some X) (h1 : optD ν lo LO) (h2 : optD ν hi HI) (h3 : optD ν mx MX) (h : sliceA P t x lo hi mx = some v) :
    ∃ V, den ν v = some V ∧ (Instr.sliceAt t X LO HI MX).run P w = .ok V w := by
  unfold sliceA at h
  split at h
  · -- a string
    rename_i s hu
    simp only [den, Option.some.injEq] at hx
    subst hx
    cases mx with
    | some m => cases h
    | none =>
      simp only at h
      split at h
      · rename_i l hh m hb
        injection h with h
        subst h
        obtain ⟨r, _, _, _⟩ := run_bounds (P := P) (w := w) (ν := ν) (C := s.length) (c := .k s.length) rfl (Nat.le_refl _) h1 h2 h3 hb false
        refine ⟨.string ((ByteArray.mk s.toArray).extract l hh), ?_, ?_⟩
        · simp only [den, Option.some.injEq, Value.string.injEq]
          apply ByteArray.ext
          simp [List.extract_eq_take_drop]
        · simp only [optD] at h3
          subst h3
          unfold Instr.sliceAt
          show (Sem.bind (underlying t) _).run P w = _
          rw [run_bind, run_underlying hu]
          unfold Instr.slice
          show (Sem.bind (underlying t) _).run P w = _
          rw [run_bind, run_underlying hu]
          simp only [Option.isSome_none, Bool.false_eq_true, if_false]
          show (Sem.bind (Instr.sliceBounds false (ByteArray.mk s.toArray).size (ByteArray.mk s.toArray).size LO HI none) _).run P w = _
          rw [run_bind]
          have e : (ByteArray.mk s.toArray).size = s.length := rfl
          rw [e, r]
          rfl
      · cases h
  · -- nil
    rename_i e hu
    simp only [den, Option.some.injEq] at hx
    subst hx
    split at h
    · rename_i q z hb hz
      obtain ⟨l, hh, m⟩ := q
      injection h with h
      subst h
      obtain ⟨r, i1, i2, i3⟩ := run_bounds (P := P) (w := w) (ν := ν) (C := 0) (c := .k 0) rfl (Nat.le_refl _) h1 h2 h3 hb true
      refine ⟨.slice none 0 0, rfl, ?_⟩
      unfold Instr.sliceAt
      show (Sem.bind (underlying t) _).run P w = _
      rw [run_bind, run_underlying hu]
      unfold Instr.slice
      show (Sem.bind (underlying t) _).run P w = _
      rw [run_bind, run_underlying hu]
      show (Sem.bind (Instr.sliceBounds true 0 0 LO HI MX) _).run P w = _
      rw [run_bind, r]
      show (Sem.bind (sizeOf e) _).run P w = _
      rw [run_bind, run_sizeT hz]
      show Result.ok (Value.slice _ _ _) w = _
      have e1 : m.getD 0 = 0 := by omega
      have e2 : hh = 0 := by omega
      have e3 : l = 0 := by omega
      simp [e1, e2, e3]
    · cases h
  · -- a slice
    rename_i e i off len c hu
    obtain ⟨g, C, hg, hC, hlen, rfl⟩ := slice_den hx
    have go : ∀ {l hh : Nat} {m : Option Nat} {z : Nat}, boundsA len c lo hi mx = some (l, hh, m) → sizeT P e = some z →
        (Instr.sliceAt t (.slice (some ⟨g, off, none⟩) len C) LO HI MX).run P w = .ok (.slice (some ⟨g, if m.getD C = l then off else off + l * z, none⟩) (hh - l) (m.getD C - l)) w ∧ l ≤ hh ∧ hh ≤ m.getD C ∧ m.getD C ≤ C := fun {l hh m z} hb hz => by
      obtain ⟨r, i1, i2, i3⟩ := run_bounds (P := P) (w := w) (ν := ν) hC hlen h1 h2 h3 hb true
      refine ⟨?_, i1, i2, i3⟩
      unfold Instr.sliceAt
      show (Sem.bind (underlying t) _).run P w = _
      rw [run_bind, run_underlying hu]
      unfold Instr.slice
      show (Sem.bind (underlying t) _).run P w = _
      rw [run_bind, run_underlying hu]
      show (Sem.bind (Instr.sliceBounds true len C LO HI MX) _).run P w = _
      rw [run_bind, r]
      show (Sem.bind (sizeOf e) _).run P w = _
      rw [run_bind, run_sizeT hz]
      show Result.ok (Value.slice _ _ _) w = _
      simp only [Option.map_some]
      rw [← add_if]
      split <;> rfl
    split at h
    · rename_i l hh z hb hz
      obtain ⟨r, i1, i2, i3⟩ := go hb hz
      simp only [Option.getD_none] at r i2
      cases c with
      | k n =>
        simp only [capOf, Option.some.injEq] at hC
        subst hC
        simp only [selN_beq, Option.some.injEq] at h
        subst h
        refine ⟨_, ?_, r⟩
        simp only [den, hg, capOf]
        rw [if_pos (by omega)]
      | u c m =>
        simp only [capOf] at hC
        split at hC
        · rename_i n hn
          split at hC
          · rename_i hmn
            injection hC with hC
            simp only at h
            split at h
            · rename_i h0
              have h0 := Nat.eq_of_beq_eq_true h0
              subst h0
              injection h with h
              subst h
              refine ⟨_, ?_, r⟩
              simp only [den, hg, capOf, hn, if_pos hmn]
              rw [if_pos (by omega)]
              simp [hC]
            · rename_i h0 h1'
              have h1' := Nat.le_of_ble_eq_true h1'
              injection h with h
              subst h
              refine ⟨_, ?_, r⟩
              simp only [den, hg, capOf, hn]
              rw [if_pos (show m + l ≤ n by omega)]
              simp only []
              rw [if_pos (by omega), if_neg (by omega)]
              congr 2
              omega
            · split at h
              · rename_i h2
                have h2 := Nat.eq_of_beq_eq_true h2
                injection h with h
                subst h
                refine ⟨_, ?_, r⟩
                simp only [den, hg, capOf, hn, if_pos hmn, hC, h2, Nat.sub_self]
                split
                · rename_i e
                  simp [e]
                · rfl
              · cases h
          · cases hC
        · cases hC
    · rename_i l hh m z hb hz
      obtain ⟨r, i1, i2, i3⟩ := go hb hz
      simp only [Option.getD_some] at r i2 i3
      simp only [selN_beq, Option.some.injEq] at h
      subst h
      refine ⟨_, ?_, r⟩
      simp only [den, hg, capOf]
      rw [if_pos (by omega)]
    · cases h
  · -- an array
    rename_i n e i off hu
    obtain ⟨g, hg, rfl⟩ := ptr_den hx
    split at h
    · rename_i l hh m z hb hz
      obtain ⟨r, i1, i2, i3⟩ := run_bounds (P := P) (w := w) (ν := ν) (C := n) (c := .k n) rfl (Nat.le_refl _) h1 h2 h3 hb false
      simp only [selN_beq, Option.some.injEq] at h
      subst h
      refine ⟨.slice (some ⟨g, if m.getD n = l then off else off + l * z, none⟩) (hh - l) (m.getD n - l), ?_, ?_⟩
      · simp only [den, hg, capOf]
        rw [if_pos (by omega)]
      · unfold Instr.sliceAt
        show (Sem.bind (underlying t) _).run P w = _
        rw [run_bind, run_underlying hu]
        show (Sem.bind (Instr.sureAddr _) _).run P w = _
        rw [run_bind]
        show (Sem.bind (Instr.sliceBounds false n n LO HI MX) _).run P w = _
        rw [run_bind, r]
        show (Sem.bind (sizeOf e) _).run P w = _
        rw [run_bind, run_sizeT hz]
        show Result.ok (Value.slice _ _ _) w = _
        rw [← add_if]
    · cases h
  · cases h

/-! ### literals -/
def PRel (ν : Nm) (p : Nat × AV) (q : Nat × Value) : Prop := p.1 = q.1 ∧ den ν p.2 = some q.2

theorem overlay_zip (off : Nat) : ∀ (vs : List Value) (k : Nat) (arr : Array Value), ((vs.zipIdx k).foldl (fun cs p => cs.setIfInBounds (off + p.2) p.1) arr).toList = overlay arr.toList (off + k) vs
  | [], _, _ => rfl
  | v :: vs, k, arr => by
    rw [List.zipIdx_cons, List.foldl_cons, overlay_zip off vs (k + 1)]
    simp [overlay, Nat.add_assoc]
theorem run_fill {pl : Nat → Option (Nat × Nat)} : ∀ {ps : List (Nat × AV)} {qs : List (Nat × Value)} {l r : List AV} {arr : Array Value}, All2 (PRel ν) ps qs → denL ν l = some arr.toList → fillA pl l ps = some r → ∃ arr', Instr.fill pl arr qs = some arr' ∧ denL ν r = some arr'.toList
  | [], [], l, r, arr, _, hl, h => by
    simp only [fillA, Option.some.injEq] at h
    subst h
    exact ⟨arr, rfl, hl⟩
  | (i, v) :: ps, (j, V) :: qs, l, r, arr, hp, hl, h => by
    obtain ⟨⟨e, hv⟩, hp⟩ := hp
    simp only at e hv
    subst e
    unfold fillA at h
    unfold Instr.fill
    cases hpl : pl i with
    | none => rw [hpl] at h; cases h
    | some os =>
      obtain ⟨off, size⟩ := os
      rw [hpl] at h
      simp only at h ⊢
      split at h
      · rename_i hc
        simp only [Bool.and_eq_true] at hc
        obtain ⟨⟨c1, c2⟩, c3⟩ := hc
        have c1 := Nat.eq_of_beq_eq_true c1
        have c2 := Nat.le_of_ble_eq_true c2
        have hcells := cells_den hv c3
        have hlen : V.cells.size = size := by
          have := denL_len hcells
          simp at this
          omega
        have hll : arr.size = l.length := by have := denL_len hl; simpa using this
        have cond : (decide (V.cells.size ≠ size) || decide (off + V.cells.size > arr.size)) = false := by
          rw [Bool.or_eq_false_iff, decide_eq_false_iff_not, decide_eq_false_iff_not]
          exact ⟨fun hne => hne hlen, by omega⟩
        rw [cond]
        simp only [Bool.false_eq_true, if_false]
        refine run_fill hp ?_ h
        have : (V.cells.zipIdx.foldl (fun cs p => cs.setIfInBounds (off + p.2) p.1) arr).toList = overlay arr.toList off V.cells.toList := by
          rw [← Array.foldl_toList]
          have := overlay_zip off V.cells.toList 0 arr
          simpa using this
        show denL ν _ = some (V.cells.zipIdx.foldl (fun cs p => cs.setIfInBounds (off + p.2) p.1) arr).toList
        rw [this]
        exact denL_over off hl hcells
      · cases h
  | [], _ :: _, _, _, _, hp, _, _ => hp.elim
  | _ :: _, [], _, _, _, hp, _, _ => hp.elim
theorem run_mapM {α β : Type} {f : α → Option β} {g : α → Sem β} (hg : ∀ x y, f x = some y → (g x).run P w = .ok y w) : ∀ {l : List α} {m : List β}, mapO f l = some m → (l.mapM g).run P w = .ok m w
  | [], m, h => by
    simp only [mapO, Option.some.injEq] at h
    subst h
    rfl
  | x :: l, m, h => by
    simp only [mapO] at h
    split at h
    · cases h
    · rename_i y hy
      split at h
      · cases h
      · rename_i r hr
        injection h with h
        subst h
        rw [List.mapM_cons]
        show (Sem.bind (g x) _).run P w = _
        rw [run_bind, hg x y hy]
        show (Sem.bind (l.mapM g) _).run P w = _
        rw [run_bind, run_mapM hg hr]
        rfl
theorem run_build {t : TypeId} {ps : List (Nat × AV)} {qs : Array (Nat × Value)} {v : AV} (hp : All2 (PRel ν) ps qs.toList) (h : buildA P t ps = some v) (hz1 : True) : ∃ V, den ν v = some V ∧ (Instr.build t qs).run P w = .ok V w := by
  unfold buildA at h
  split at h
  · cases h
  · rename_i z hz
    obtain ⟨Z, hZ, rz⟩ := run_zeroA (P := P) (ν := ν) (w := w) hz
    have hzc : denL ν (cellsA z) = some Z.cells.toList := by
      cases z
      case agg l =>
        obtain ⟨L, hL, rfl⟩ := agg_den hZ
        simpa [cellsA, Value.cells] using hL
      case tup l =>
        obtain ⟨L, hL, rfl⟩ := tup_den hZ
        simp [cellsA, denL, hZ, Value.cells]
      all_goals
        rw [show cellsA _ = [_] from rfl, (one_den rfl hZ).2.2]
        simp [denL, hZ]
    unfold Instr.build
    split at h
    · rename_i fields hu
      split at h
      · rename_i pl hpl
        rw [Option.map_eq_some_iff] at h
        obtain ⟨r, hr, rfl⟩ := h
        show ∃ V, _ ∧ (Sem.bind (zeroValue t) _).run P w = _
        rw [run_bind, rz]
        show ∃ V, _ ∧ (Sem.bind (underlying t) _).run P w = _
        rw [run_bind, run_underlying hu]
        show ∃ V, _ ∧ (Sem.bind (fields.mapM fun f => _) _).run P w = _
        have hm : (fields.mapM fun f => (do pure (f.offset, ← sizeOf f.type) : Sem (Nat × Nat))).run P w = .ok pl.toArray w := by
          rw [Array.mapM_eq_mapM_toList, ← bind_pure_comp]
          show (Sem.bind _ _).run P w = _
          rw [run_bind, run_mapM (f := fun f : Field => (sizeT P f.type).map fun n => (f.offset, n)) (fun f y hy => by
            rw [Option.map_eq_some_iff] at hy
            obtain ⟨n, hn, rfl⟩ := hy
            show (Sem.bind (sizeOf f.type) _).run P w = _
            rw [run_bind, run_sizeT hn]
            rfl) hpl]
          rfl
        rw [run_bind, hm]
        simp only []
        obtain ⟨arr', h1, h2⟩ := run_fill (ν := ν) (pl := fun (i : Nat) => pl[i]?) (arr := Z.cells) hp hzc hr
        have e : (fun (i : Nat) => (pl.toArray)[i]?) = fun (i : Nat) => pl[i]? := by funext i; simp
        refine ⟨.agg arr', by simp [den, h2], ?_⟩
        simp only [e, h1]
        rfl
      · cases h
    · rename_i n e hu
      split at h
      · rename_i size hs
        rw [Option.map_eq_some_iff] at h
        obtain ⟨r, hr, rfl⟩ := h
        show ∃ V, _ ∧ (Sem.bind (zeroValue t) _).run P w = _
        rw [run_bind, rz]
        show ∃ V, _ ∧ (Sem.bind (underlying t) _).run P w = _
        rw [run_bind, run_underlying hu]
        show ∃ V, _ ∧ (Sem.bind (sizeOf e) _).run P w = _
        rw [run_bind, run_sizeT hs]
        simp only []
        obtain ⟨arr', h1, h2⟩ := run_fill (ν := ν) (pl := fun i => some (i * size, size)) (arr := Z.cells) hp hzc hr
        refine ⟨.agg arr', by simp [den, h2], ?_⟩
        simp only [h1]
        rfl
      · cases h
    · cases h
end

end Go.Proofs.YtlijlapkhimaoaaGreatDoor
