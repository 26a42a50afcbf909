/- The evaluator, 10: one operation. No program in sight. -/
import Derived.Test.YtimlcedifnhjbaaE9
namespace Go.Proofs.Ytimlcedifnhjbaa
open Go Go.RowKit

section
variable {P : Program} {w0 w : World} {A : Anch} {ν : Nm} {s : St} {T : Tr AV} {N : Nat} {a : Act}

theorem uni {v : AV} {R : Value → World → Prop} (h : ∀ w : World, ∃ V, den ν v = some V ∧ R V w) : ∃ V, den ν v = some V ∧ ∀ w, R V w := by
  obtain ⟨V, hV, _⟩ := h default
  refine ⟨V, hV, fun w => ?_⟩
  obtain ⟨U, hU, r⟩ := h w
  rw [hV] at hU
  injection hU with hU
  subst hU
  exact r
theorem run_val {x : Sem Value} {V : Value} {w w' : World} (h : x.run P w = .ok V w') : (Sem.bind x fun v => Sem.pure (Next.value v)).run P w = .ok (.value V) w' := by
  rw [run_bind, h]
  rfl
theorem run_unit {x : Sem Unit} {w w' : World} (h : x.run P w = .ok () w') : (Sem.bind x fun _ => Sem.pure Next.skip).run P w = .ok .skip w' := by
  rw [run_bind, h]
  rfl
theorem opt_den (hF : FRel ν T N a.tmps) {x : Option Operand} {l : Option AV} (h : optA T x = some l) : optD ν l (x.map a.eval) := by
  cases x with
  | none => simp only [optA, Option.some.injEq] at h; subst h; rfl
  | some x =>
    simp only [optA] at h
    split at h
    · rename_i v hv
      injection h with h
      subst h
      exact ⟨_, hF.evA hv, rfl⟩
    · cases h
theorem list_den (hF : FRel ν T N a.tmps) : ∀ {l : List Operand} {vs : List AV}, mapO (evA T) l = some vs → denL ν vs = some (l.map a.eval)
  | [], vs, h => by simp only [mapO, Option.some.injEq] at h; subst h; rfl
  | x :: l, vs, h => by
    simp only [mapO] at h
    split at h
    · cases h
    · rename_i y hy
      split at h
      · cases h
      · rename_i m hm
        injection h with h
        subst h
        exact denL_mk (hF.evA hy) (list_den hF hm)
theorem parts_den (hF : FRel ν T N a.tmps) : ∀ {l : List (Nat × Operand)} {ps : List (Nat × AV)}, mapO (fun p : Nat × Operand => (evA T p.2).map fun v => (p.1, v)) l = some ps → All2 (PRel ν) ps (l.map fun p => (p.1, a.eval p.2))
  | [], vs, h => by simp only [mapO, Option.some.injEq] at h; subst h; trivial
  | x :: l, vs, h => by
    simp only [mapO] at h
    split at h
    · cases h
    · rename_i y hy
      split at h
      · cases h
      · rename_i m hm
        injection h with h
        subst h
        rw [Option.map_eq_some_iff] at hy
        obtain ⟨v, hv, rfl⟩ := hy
        exact ⟨⟨rfl, hF.evA hv⟩, parts_den hF hm⟩
theorem bind_natOf {x : Option AV} {n : Nat} (h : x.bind natOf = some n) : ∃ v, x = some v ∧ natOf v = some n := by
  cases x with
  | none => cases h
  | some v => exact ⟨v, rfl, h⟩

theorem run_eqGuard {op : BinOp} {t : TypeId} {x y : Operand} {X Y : Value} (hg : P.eqGuardType P.depth t = false) : (eqGuard op t x y X Y).run P w = .ok () w ∨ (X = .nilIface ∧ Y = .nilIface) := by
  by_cases hn : X = .nilIface ∧ Y = .nilIface
  · exact .inr hn
  · left
    unfold eqGuard
    cases op <;> first | rfl | skip
    all_goals
      simp only [Bool.not_true, Bool.false_eq_true, if_false, bind]
      cases X <;> cases Y <;> first | rfl | (exact absurd ⟨rfl, rfl⟩ hn) | (simp [program, bind, Sem.bind, Sem.run, pure, hg])
theorem run_eqGuard2 {op : BinOp} {t : TypeId} {x y : Operand} {X Y : Value} (h : op ≠ .eql ∧ op ≠ .neq) : (eqGuard op t x y X Y).run P w = .ok () w := by
  unfold eqGuard
  cases op <;> first | rfl | exact absurd rfl h.1 | exact absurd rfl h.2
def simpleA : AV → Bool
  | .bool _ => true
  | .nptr => true
  | .ptr _ _ => true
  | .nslice => true
  | .slice .. => true
  | .nmap => true
  | .map _ => true
  | .func .. => true
  | .nfunc => true
  | .agg _ => true
  | _ => false
def simpleV : Value → Bool
  | .bool _ => true
  | .pointer _ => true
  | .slice .. => true
  | .map _ => true
  | .func .. => true
  | .nilFunc => true
  | .agg _ => true
  | _ => false
theorem simple_den {v : AV} {V : Value} (h : simpleA v = true) (hv : den ν v = some V) : simpleV V = true := by
  cases v <;> first | (cases h; done) | skip
  all_goals simp only [den] at hv
  all_goals repeat' split at hv
  all_goals first | (cases hv; done) | (injection hv with hv; subst hv; rfl)
theorem eqA_kinds {d : Nat} {t : TypeId} {x y : AV} {b : Bool} (h : eqA P d t x y = some b) : (∃ k p k' q, x = .int k p ∧ y = .int k' q) ∨ (∃ p q, x = .str p ∧ y = .str q) ∨ (simpleA x = true ∧ simpleA y = true) := by
  cases d with
  | zero => simp [eqA] at h
  | succ d =>
    unfold eqA at h
    split at h
    all_goals first
      | (cases h; done)
      | (split at h <;> first | (cases h; done) | exact .inr (.inr ⟨rfl, rfl⟩) | exact .inl ⟨_, _, _, _, rfl, rfl⟩ | exact .inr (.inl ⟨_, _, rfl, rfl⟩))
theorem run_eq_simple {t : TypeId} {X Y : Value} {b : Bool} {w : World} (hx : simpleV X = true) (hy : simpleV Y = true) (h : (Op.equal t X Y).run P w = .ok b w) : (binOp .eql t X Y).run P w = .ok (.bool b) w ∧ (binOp .neq t X Y).run P w = .ok (.bool !b) w := by
  have e1 : (Sem.bind (Op.equal t X Y) fun b => Sem.pure (Value.bool b)).run P w = .ok (.bool b) w := by rw [run_bind, h]; rfl
  have e2 : (Sem.bind (Op.equal t X Y) fun b => Sem.pure (Value.bool !b)).run P w = .ok (.bool !b) w := by rw [run_bind, h]; rfl
  cases X <;> first | (cases hx; done) | skip
  all_goals cases Y <;> first | (cases hy; done) | exact ⟨e1, e2⟩

theorem binA_rel {op : BinOp} {t : TypeId} {x y v : AV} {X Y : Value} (h : binA P op t x y = some v) (hx : den ν x = some X) (hy : den ν y = some Y) (xo yo : Operand) (w : World) :
    ∃ V, den ν v = some V ∧ (Sem.bind (eqGuard op t xo yo X Y) fun _ => binOp op t X Y).run P w = .ok V w := by
  unfold binA at h
  split at h
  · rename_i k p k' q
    simp only [den, Option.some.injEq] at hx hy
    subst hx hy
    have hg : (eqGuard op t xo yo (.int k p) (.int k' q)).run P w = .ok () w := by unfold eqGuard; cases op <;> rfl
    have go : (∃ V, den ν v = some V ∧ (binOp op t (.int k p) (.int k' q)).run P w = .ok V w) → ∃ V, den ν v = some V ∧ (Sem.bind (eqGuard op t xo yo (.int k p) (.int k' q)) fun _ => binOp op t (.int k p) (.int k' q)).run P w = .ok V w := fun ⟨V, h1, h2⟩ => ⟨V, h1, by rw [run_bind, hg]; exact h2⟩
    apply go
    split at h
    · exact run_shift h (.inl rfl) t
    · exact run_shift h (.inr rfl) t
    · split at h
      · rename_i hk
        have := kindEq_spec hk
        subst this
        exact run_intBin h t
      · cases h
  · rename_i p q
    simp only [den, Option.some.injEq] at hx hy
    subst hx hy
    obtain ⟨V, h1, h2⟩ := run_strBin (P := P) (w := w) (ν := ν) h t
    have hg : (eqGuard op t xo yo (.string ⟨p.toArray⟩) (.string ⟨q.toArray⟩)).run P w = .ok () w := by unfold eqGuard; cases op <;> rfl
    exact ⟨V, h1, by rw [run_bind, hg]; exact h2⟩
  · rename_i hni hns
    have key : ∀ (b : Bool), (op = .eql ∨ op = .neq) → P.eqGuardType P.depth t = false → eqA P 12 t x y = some b → (Sem.bind (eqGuard op t xo yo X Y) fun _ => binOp op t X Y).run P w = .ok (.bool (if op = .eql then b else !b)) w := fun b hop hgd hb => by
      have hr := eqA_sound (P := P) (w := w) 12 Op.maxDepth t x y b X Y (by decide) hb hx hy
      have hs : simpleV X = true ∧ simpleV Y = true := by
        rcases eqA_kinds hb with ⟨k, p, k', q, rfl, rfl⟩ | ⟨p, q, rfl, rfl⟩ | ⟨h1, h2⟩
        · exact absurd rfl (hni k p k' q rfl)
        · exact absurd rfl (hns p q rfl)
        · exact ⟨simple_den h1 hx, simple_den h2 hy⟩
      have hnn : ¬ (X = .nilIface ∧ Y = .nilIface) := fun hc => by
        rw [hc.1] at hs
        cases hs.1
      rw [run_bind, (run_eqGuard (w := w) (op := op) (x := xo) (y := yo) hgd).resolve_right hnn]
      simp only []
      have e1 := run_eq_simple (P := P) (t := t) hs.1 hs.2 hr
      rcases hop with rfl | rfl
      · simpa using e1.1
      · simpa using e1.2
    split at h
    · split at h
      · cases h
      · rename_i hgd
        rw [Option.map_eq_some_iff] at h
        obtain ⟨b, hb, rfl⟩ := h
        exact ⟨_, rfl, by have := key b (.inl rfl) hgd hb; simpa using this⟩
    · split at h
      · cases h
      · rename_i hgd
        rw [Option.map_eq_some_iff] at h
        obtain ⟨b, hb, rfl⟩ := h
        exact ⟨_, rfl, by have := key b (.inr rfl) hgd hb; simpa using this⟩
    · cases h

theorem unA_rel {op : UnOp} {x v : AV} {X : Value} (h : unA op x = some v) (hx : den ν x = some X) (w : World) : ∃ V, den ν v = some V ∧ (Op.unary op X).run P w = .ok V w := by
  unfold unA at h
  split at h
  · injection h with h
    simp only [den, Option.some.injEq] at hx
    subst hx h
    exact ⟨_, rfl, rfl⟩
  · rename_i k n
    simp only [den, Option.some.injEq] at hx
    subst hx
    simp only [intBinA, Option.some.injEq] at h
    subst h
    exact ⟨_, rfl, rfl⟩
  · injection h with h
    simp only [den, Option.some.injEq] at hx
    subst hx h
    exact ⟨_, rfl, rfl⟩
  · cases h

theorem indexAt_slice {t e : TypeId} {g off n C j z : Nat} {k : IntKind} (hu : P.underlying t = some (.slice e)) (hj : j < n) (hz : sizeT P e = some z) (w : World) :
    (Instr.indexAt t (.slice (some ⟨g, off, none⟩) n C) (.int k (.ofNat j))).run P w = .ok (.pointer (some ⟨g, off + j * z, none⟩)) w := by
  obtain ⟨i, hi, rfl⟩ := sizeT_spec hz
  have := run_indexAt (P := P) (w := w) (ad := ⟨g, off, none⟩) (n := n) (m := C) (k := k) (i := (j : Int)) hu hi (by omega) (by omega)
  rw [addr_add] at this
  exact this
theorem indexAt_array {t e : TypeId} {g off n j z : Nat} {k : IntKind} (hu : P.underlying t = some (.array n e)) (hj : j < n) (hz : sizeT P e = some z) (w : World) :
    (Instr.indexAt t (.pointer (some ⟨g, off, none⟩)) (.int k (.ofNat j))).run P w = .ok (.pointer (some ⟨g, off + j * z, none⟩)) w := by
  unfold Instr.indexAt
  simp only [asIntOf, bind, pure, Sem.bind]
  rw [run_bind, run_underlying hu]
  simp only [Sem.bind, Instr.sureAddr, pure]
  rw [run_bind, run_underlying hu]
  have h0 : (0 : Int) ≤ Int.ofNat j ∧ Int.ofNat j < (n : Int) := ⟨Int.natCast_nonneg j, Int.ofNat_lt.2 hj⟩
  simp only [h0, and_self, if_true]
  rw [run_bind, run_sizeT hz]
  simp only []
  show Result.ok (Value.pointer (some ((⟨g, off, none⟩ : Addr).add (j * z)))) w = _
  rw [addr_add]
end

end Go.Proofs.Ytimlcedifnhjbaa
