/- The evaluator, 10: one operation. No program in sight. -/
import Derived.Test.YtlijlapkhimaoaaGreatDoorE9
namespace Go.Proofs.YtlijlapkhimaoaaGreatDoor
open Go Go.RowKit

section
variable {P : Program} {w0 w : World} {A : Anch} {ν : Nm} {s : St} {T : Tr AV} {N : Nat} {a : Act}

theorem uni {v : AV} {R : Value → World → Prop} (h : ∀ w : World, ∃ V, den ν v = some V ∧ R V w) : ∃ V, den ν v = some V ∧ ∀ w, R V w := by
  obtain ⟨V, hV, _⟩ := h default
  refine ⟨V, hV, fun w => ?_⟩
  obtain ⟨U, hU, r⟩ := h w
  rw [hV] at hU
  injection hU with hU
  subst hU
  exact r
theorem run_val {x : Sem Value} {V : Value} {w w' : World} (h : x.run P w = .ok V w') : (Sem.bind x fun v => Sem.pure (Next.value v)).run P w = .ok (.value V) w' := by
  rw [run_bind, h]
  rfl
theorem run_unit {x : Sem Unit} {w w' : World} (h : x.run P w = .ok () w') : (Sem.bind x fun _ => Sem.pure Next.skip).run P w = .ok .skip w' := by
  rw [run_bind, h]
  rfl
theorem opt_den (hF : FRel ν T N a.tmps) {x : Option Operand} {l : Option AV} (h : optA T x = some l) : optD ν l (x.map a.eval) := by
  cases x with
  | none => simp only [optA, Option.some.injEq] at h; subst h; rfl
  | some x =>
    simp only [optA] at h
    split at h
    · rename_i v hv
      injection h with h
      subst h
      exact ⟨_, hF.evA hv, rfl⟩
    · cases h
theorem list_den (hF : FRel ν T N a.tmps) : ∀ {l : List Operand} {vs : List AV}, mapO (evA T) l = some vs → denL ν vs = some (l.map a.eval)
  | [], vs, h => by simp only [mapO, Option.some.injEq] at h; subst h; rfl
  | x :: l, vs, h => by
    simp only [mapO] at h
    split at h
    · cases h
    · rename_i y hy
      split at h
      · cases h
      · rename_i m hm
        injection h with h
        subst h
        exact denL_mk (hF.evA hy) (list_den hF hm)
theorem parts_den (hF : FRel ν T N a.tmps) : ∀ {l : List (Nat × Operand)} {ps : List (Nat × AV)}, mapO (fun p : Nat × Operand => (evA T p.2).map fun v => (p.1, v)) l = some ps → All2 (PRel ν) ps (l.map fun p => (p.1, a.eval p.2))
  | [], vs, h => by simp only [mapO, Option.some.injEq] at h; subst h; trivial
  | x :: l, vs, h => by
    simp only [mapO] at h
    split at h
    · cases h
    · rename_i y hy
      split at h
      · cases h
      · rename_i m hm
        injection h with h
        subst h
        rw [Option.map_eq_some_iff] at hy
        obtain ⟨v, hv, rfl⟩ := hy
        exact ⟨⟨rfl, hF.evA hv⟩, parts_den hF hm⟩
theorem bind_natOf {x : Option AV} {n : Nat} (h : x.bind natOf = some n) : ∃ v, x = some v ∧ natOf v = some n := by
  cases x with
  | none => cases h
  | some v => exact ⟨v, rfl, h⟩

theorem run_eqGuard {op : BinOp} {t : TypeId} {x y : Operand} {X Y : Value} (hg : P.eqGuardType P.depth t = false) : (eqGuard op t x y X Y).run P w = .ok () w ∨ (X = .nilIface ∧ Y = .nilIface) := by
  by_cases hn : X = .nilIface ∧ Y = .nilIface
  · exact .inr hn
  · left
    unfold eqGuard
    cases op <;> first | rfl | skip
    all_goals
      simp only [Bool.not_true, Bool.false_eq_true, if_false, bind]
      cases X <;> cases Y <;> first | rfl | (exact absurd ⟨rfl, rfl⟩ hn) | (simp [program, bind, Sem.bind, Sem.run, pure, hg])
theorem run_eqGuard2 {op : BinOp} {t : TypeId} {x y : Operand} {X Y : Value} (h : op ≠ .eql ∧ op ≠ .neq) : (eqGuard op t x y X Y).run P w = .ok () w := by
  unfold eqGuard
  cases op <;> first | rfl | exact absurd rfl h.1 | exact absurd rfl h.2
def simpleA : AV → Bool
  | .bool _ => true
  | .nptr => true
  | .ptr _ _ => true
  | .nslice => true
  | .slice .. => true
  | .nmap => true
  | .map _ => true
  | .func .. => true
  | .nfunc => true
  | .agg _ => true
  | _ => false
def simpleV : Value → Bool
  | .bool _ => true
  | .pointer _ => true
  | .slice .. => true
  | .map _ => true
  | .func .. => true
  | .nilFunc => true
  | .agg _ => true
  | _ => false
theorem simple_den {v : AV} {V : Value} (h : simpleA v = true) (hv : den ν v = some V) : simpleV V = true := by
  cases v <;> first | (cases h; done) | skip
  all_goals simp only [den] at hv
  all_goals repeat' split at hv
  all_goals first | (cases hv; done) | (injection hv with hv; subst hv; rfl)
theorem eqA_kinds {d : Nat} {t : TypeId} {x y : AV} {b : Bool} (h : eqA P d t x y = some b) : (∃ k p k' q, x = .int k p ∧ y = .int k' q) ∨ (∃ p q, x = .str p ∧ y = .str q) ∨ (simpleA x = true ∧ simpleA y = true) := by
  cases d with
  | zero => simp [eqA] at h
  | succ d =>
    unfold eqA at h
    split at h
    all_goals first
      | (cases h; done)
      | (split at h <;> first | (cases h; done) | exact .inr (.inr ⟨rfl, rfl⟩) | exact .inl ⟨_, _, _, _, rfl, rfl⟩ | exact .inr (.inl ⟨_, _, rfl, rfl⟩))
theorem run_eq_simple {t : TypeId} {X Y : Value} {b : Bool} {w : World} (hx : simpleV X = true) (hy : simpleV Y = true) (h : (Op.equal t X Y).run P w = .ok b w) : (binOp .eql t X Y).run P w = .ok (.bool b) w ∧ (binOp .neq t X Y).run P w = .ok (.bool !b) w := by
  have e1 : (Sem.bind (Op.equal t X Y) fun b => Sem.pure (Value.bool b)).run P w = .ok (.bool b) w := by rw [run_bind, h]; rfl
  have e2 : (Sem.bind (Op.equal t X Y) fun b => Sem.pure (Value.bool !b)).run P w = .ok (.bool !b) w := by rw [run_bind, h]; rfl
  cases X <;> first | (cases hx; done) | skip
  all_goals cases Y <;> first | (cases hy; done) | exact ⟨e1, e2⟩

theorem binA_rel {op : BinOp} {t : TypeId} {x y v : AV} {X Y : Value} (h : binA P op t x y = some v) (hx : den ν x = some X) (hy : den ν y = some Y) (xo yo : Operand) (w : World) :
    ∃ V, den ν v = some V ∧ (Sem.bind (eqGuard op t xo yo X Y) fun _ => binOp op t X Y).run P w = .ok V w := by
  unfold binA at h
  split at h
  · rename_i k p k' q
    simp only [den, Option.some.injEq] at hx hy
    subst hx hy
    have hg : (eqGuard op t xo yo (.int k p) (.int k' q)).run P w = .ok () w := by unfold eqGuard; cases op <;> rfl
    have go : (∃ V, den ν v = some V ∧ (binOp op t (.int k p) (.int k' q)).run P w = .ok V w) → ∃ V, den ν v = some V ∧ (Sem.bind (eqGuard op t xo yo (.int k p) (.int k' q)) fun _ => binOp op t (.int k p) (.int k' q)).run P w = .ok V w := fun ⟨V, h1, h2⟩ => ⟨V, h1, by rw [run_bind, hg]; exact h2⟩
    apply go
    split at h
    · exact run_shift h (.inl rfl) t
    · exact run_shift h (.inr rfl) t
    · split at h
      · rename_i hk
        have := kindEq_spec hk
        subst this
        exact run_intBin h t
      · cases h
  · rename_i p q
    simp only [den, Option.some.injEq] at hx hy
    subst hx hy
    obtain ⟨V, h1, h2⟩ := run_strBin (P := P) (w := w) (ν := ν) h t
    have hg : (eqGuard op t xo yo (.string ⟨p.toArray⟩) (.string ⟨q.toArray⟩)).run P w = .ok () w := by unfold eqGuard; cases op <;> rfl
    exact ⟨V, h1, by rw [run_bind, hg]; exact h2⟩
  · rename_i hni hns
    have key : ∀ (b : Bool), (op = .eql ∨ op = .neq) → P.eqGuardType P.depth t = false → eqA P 12 t x y = some b → (Sem.bind (eqGuard op t xo yo X Y) fun _ => binOp op t X Y).run P w = .ok (.bool (if op = .eql then b else !b)) w := fun b hop hgd hb => by
      have hr := eqA_sound (P := P) (w := w) 12 Op.maxDepth t x y b X Y (by decide) hb hx hy
      have hs : simpleV X = true ∧ simpleV Y = true := by
        rcases eqA_kinds hb with ⟨k, p, k', q, rfl, rfl⟩ | ⟨p, q, rfl, rfl⟩ | ⟨h1, h2⟩
        · exact absurd rfl (hni k p k' q rfl)
        · exact absurd rfl (hns p q rfl)
        · exact ⟨simple_den h1 hx, simple_den h2 hy⟩
      have hnn : ¬ (X = .nilIface ∧ Y = .nilIface) := fun hc => by
        rw [hc.1] at hs
        cases hs.1
      rw [run_bind, (run_eqGuard (w := w) (op := op) (x := xo) (y := yo) hgd).resolve_right hnn]
      simp only []
      have e1 := run_eq_simple (P := P) (t := t) hs.1 hs.2 hr
      rcases hop with rfl | rfl
      · simpa using e1.1
      · simpa using e1.2
    split at h
    · split at h
      · cases h
      · rename_i hgd
        rw [Option.map_eq_some_iff] at h
        obtain ⟨b, hb, rfl⟩ := h
        exact ⟨_, rfl, by have := key b (.inl rfl) hgd hb; simpa using this⟩
    · split at h
      · cases h
      · rename_i hgd
        rw [Option.map_eq_some_iff] at h
        obtain ⟨b, hb, rfl⟩ := h
        exact ⟨_, rfl, by have := key b (.inr rfl) hgd hb; simpa using this⟩
    · cases h

theorem tmOf_den {x : AV} {X : Value} {k : IntKind} {a : Tm} (h : tmOf x = some (k, a)) (hx : den ν x = some X) : ∃ n, denT ν a = some (.n n) ∧ X = .int k n := by
  unfold tmOf at h
  split at h
  · simp only [Option.some.injEq, Prod.mk.injEq] at h
    obtain ⟨rfl, rfl⟩ := h
    simp only [den, Option.some.injEq] at hx
    exact ⟨_, rfl, hx.symm⟩
  · simp only [Option.some.injEq, Prod.mk.injEq] at h
    obtain ⟨rfl, rfl⟩ := h
    obtain ⟨n, h1, h2⟩ := sym_den hx
    exact ⟨n, h1, h2⟩
  · cases h
theorem dec01 (c : Bool) : decide ((if c = true then (1 : Int) else 0) ≠ 0) = c := by cases c <;> rfl
theorem symBin_den {op : BinOp} {k : IntKind} {a b : Tm} {x y : Int} {v : AV} (h : symBin op k a b = some v) (ha : denT ν a = some (.n x)) (hb : denT ν b = some (.n y)) : op ≠ .shl ∧ op ≠ .shr ∧ ∃ u, intBinA op k x y = some u ∧ ∀ V, den ν u = some V → den ν v = some V := by
  cases op <;> simp only [symBin] at h <;> (try (cases h; done)) <;> injection h with h <;> subst h <;> refine ⟨by simp, by simp, _, rfl, fun V hV => ?_⟩ <;> simp only [den, Option.some.injEq] at hV <;> subst hV <;> simp only [den, denT, ha, hb, binZ, intBinA]
  all_goals exact congrArg (fun b => some (Value.bool b)) (dec01 _)
theorem binS_rel {op : BinOp} {t : TypeId} {x y v : AV} {X Y : Value} (h : binS P op t x y = some v) (hx : den ν x = some X) (hy : den ν y = some Y) (xo yo : Operand) (w : World) :
    ∃ V, den ν v = some V ∧ (Sem.bind (eqGuard op t xo yo X Y) fun _ => binOp op t X Y).run P w = .ok V w := by
  unfold binS at h
  split at h
  · rename_i u hu
    injection h with h
    subst h
    exact binA_rel hu hx hy xo yo w
  · unfold symA at h
    split at h
    · rename_i k a k' b ha hb
      split at h
      · rename_i hk
        have := kindEq_spec hk
        subst this
        obtain ⟨n, h1, rfl⟩ := tmOf_den ha hx
        obtain ⟨m, h2, rfl⟩ := tmOf_den hb hy
        obtain ⟨h3, h4, u, hu, hd⟩ := symBin_den h h1 h2
        have hb' : binA P op t (.int k n) (.int k m) = some u := by
          cases op <;> first | exact absurd rfl h3 | exact absurd rfl h4 | (simp only [binA, hk]; exact hu)
        obtain ⟨V, h5, h6⟩ := binA_rel (ν := ν) hb' rfl rfl xo yo w
        exact ⟨V, hd V h5, h6⟩
      · cases h
    · cases h

/-! ### pointers that are named; things behind interfaces -/
def plainV : Value → Bool
  | .pointer _ => true
  | .iface _ _ => true
  | .nilIface => true
  | _ => false
theorem run_eq_plain {t : TypeId} {X Y : Value} {b : Bool} {w : World} (hx : plainV X = true) (hy : plainV Y = true) (h : (Op.equal t X Y).run P w = .ok b w) : (binOp .eql t X Y).run P w = .ok (.bool b) w ∧ (binOp .neq t X Y).run P w = .ok (.bool !b) w := by
  have e1 : (Sem.bind (Op.equal t X Y) fun b => Sem.pure (Value.bool b)).run P w = .ok (.bool b) w := by rw [run_bind, h]; rfl
  have e2 : (Sem.bind (Op.equal t X Y) fun b => Sem.pure (Value.bool !b)).run P w = .ok (.bool !b) w := by rw [run_bind, h]; rfl
  cases X <;> first | (cases hx; done) | skip
  all_goals cases Y <;> first | (cases hy; done) | exact ⟨e1, e2⟩
theorem run_guard_plain {op : BinOp} {t : TypeId} {x y : Operand} {X Y : Value} {w : World} (hx : plainV X = true) (hc : X = .nilIface → Y = .nilIface → (isConst x || isConst y) = true) : (eqGuard op t x y X Y).run P w = .ok () w := by
  unfold eqGuard
  cases op <;> first | rfl | skip
  all_goals
    cases X <;> first | (cases hx; done) | skip
    all_goals cases Y <;> first | rfl | skip
    have := hc rfl rfl
    cases x <;> cases y <;> first | rfl | (cases this)
theorem addr_beq (g m n : Nat) : ((⟨g, m, none⟩ : Addr) == ⟨g, n, none⟩) = Nat.beq m n := by
  cases h : Nat.beq m n with
  | true =>
    have := Nat.eq_of_beq_eq_true h
    subst this
    simp
  | false =>
    have := Nat.ne_of_beq_eq_false h
    simp [this]
theorem ptrEq_sound {t : TypeId} {x y : AV} {b : Bool} {X Y : Value} {w : World} (h : ptrEq P t x y = some b) (hx : den ν x = some X) (hy : den ν y = some Y) : plainV X = true ∧ plainV Y = true ∧ X ≠ .nilIface ∧ (Op.equal t X Y).run P w = .ok b w := by
  unfold ptrEq at h
  split at h
  · rename_i e i m j n hu
    split at h
    · rename_i s hs hij
      have := Nat.eq_of_beq_eq_true hij
      subst this
      injection h with h
      subst h
      obtain ⟨g, hg, rfl⟩ := ptr_den hx
      obtain ⟨g', hg', rfl⟩ := ptr_den hy
      rw [hg] at hg'
      injection hg' with hg'
      subst hg'
      refine ⟨rfl, rfl, by simp, ?_⟩
      obtain ⟨inf, hi, hsz⟩ := sizeT_spec hs
      show (Op.equalIn (9999 + 1) t _ _).run P w = _
      rw [Op.equalIn]
      show (Sem.bind (underlying t) _).run P w = _
      rw [run_bind, run_underlying hu]
      simp only [bind]
      rw [run_bind, run_sizeOf hi]
      simp only []
      rw [if_pos (by omega)]
      unfold sameAddr
      rw [if_pos (by simp)]
      show Result.ok _ _ = _
      rw [addr_beq]
    · cases h
  · cases h
theorem ifaceEq_sound {t : TypeId} {c b : Bool} {x y : AV} {X Y : Value} {w : World} (h : ifaceEq P t c x y = some b) (hx : den ν x = some X) (hy : den ν y = some Y) : plainV X = true ∧ plainV Y = true ∧ (X = .nilIface → Y = .nilIface → c = true) ∧ (Op.equal t X Y).run P w = .ok b w := by
  unfold ifaceEq at h
  split at h
  · rename_i ms hu
    have go : ∀ {U V : Value} {q : Bool}, (∀ {s : TypeDesc → Sem Bool}, (s (.interface ms)).run P w = .ok q w → (Sem.bind (underlying t) s).run P w = .ok q w) := fun hs => by
      rw [run_bind, run_underlying hu]; exact hs
    split at h
    · split at h
      · injection h with h
        subst h
        simp only [den, Option.some.injEq] at hx hy
        subst hx hy
        refine ⟨rfl, rfl, fun _ _ => rfl, ?_⟩
        show (Op.equalIn (9999 + 1) t _ _).run P w = _
        rw [Op.equalIn]
        exact go (U := .nilIface) (V := .nilIface) rfl
      · cases h
    · rename_i ty vy
      injection h with h
      subst h
      simp only [den, Option.some.injEq] at hx
      subst hx
      simp only [den] at hy
      split at hy
      · rename_i V hV
        injection hy with hy
        subst hy
        refine ⟨rfl, rfl, fun _ e => (by cases e), ?_⟩
        show (Op.equalIn (9999 + 1) t _ _).run P w = _
        rw [Op.equalIn]
        exact go (U := .nilIface) (V := .nilIface) rfl
      · cases hy
    · rename_i ty vy
      injection h with h
      subst h
      simp only [den, Option.some.injEq] at hy
      subst hy
      simp only [den] at hx
      split at hx
      · rename_i V hV
        injection hx with hx
        subst hx
        refine ⟨rfl, rfl, fun e => (by cases e), ?_⟩
        show (Op.equalIn (9999 + 1) t _ _).run P w = _
        rw [Op.equalIn]
        exact go (U := .nilIface) (V := .nilIface) rfl
      · cases hx
    · rename_i tx vx ty vy
      simp only [den] at hx hy
      split at hx
      · rename_i VX hVX
        injection hx with hx
        subst hx
        split at hy
        · rename_i VY hVY
          injection hy with hy
          subst hy
          refine ⟨rfl, rfl, fun e => (by cases e), ?_⟩
          show (Op.equalIn (9999 + 1) t _ _).run P w = _
          rw [Op.equalIn]
          refine go (U := .nilIface) (V := .nilIface) ?_
          split at h
          · rename_i hne
            injection h with h
            subst h
            have := Nat.ne_of_beq_eq_false hne
            simp only [bind]
            rw [if_pos this]
            rfl
          · rename_i he
            have := Nat.eq_of_beq_eq_true he
            subst this
            split at h
            · rename_i inf hi
              split at h
              · rename_i hcmp
                simp only [bind]
                rw [if_neg (by simp), run_bind, run_info hi]
                simp only [hcmp]
                exact eqA_sound (P := P) (w := w) 12 9999 tx vx vy b VX VY (by decide) h hVX hVY
              · cases h
            · cases h
        · cases hy
      · cases hx
    · cases h
  · cases h
theorem eqlA_rel {op : BinOp} {t : TypeId} {x y v : AV} {X Y : Value} {xo yo : Operand} (h : eqlA P op t (isConst xo || isConst yo) x y = some v) (hx : den ν x = some X) (hy : den ν y = some Y) (w : World) :
    ∃ V, den ν v = some V ∧ (Sem.bind (eqGuard op t xo yo X Y) fun _ => binOp op t X Y).run P w = .ok V w := by
  unfold eqlA at h
  have fin : ∀ b, plainV X = true → plainV Y = true → (X = .nilIface → Y = .nilIface → (isConst xo || isConst yo) = true) → (Op.equal t X Y).run P w = .ok b w →
      (match (generalizing := false) op with | .eql => some (AV.bool b) | .neq => some (.bool (!b)) | _ => none) = some v → ∃ V, den ν v = some V ∧ (Sem.bind (eqGuard op t xo yo X Y) fun _ => binOp op t X Y).run P w = .ok V w := fun b h1 h2 h3 h4 h5 => by
    obtain ⟨e1, e2⟩ := run_eq_plain (P := P) h1 h2 h4
    rw [run_bind, run_guard_plain (P := P) (op := op) (t := t) (w := w) h1 h3]
    simp only []
    cases op <;> simp only at h5 <;> (try (cases h5; done)) <;> injection h5 with h5 <;> subst h5
    · exact ⟨_, rfl, e1⟩
    · exact ⟨_, rfl, e2⟩
  split at h
  · rename_i b hb
    split at hb
    · rename_i b' hp
      injection hb with hb
      subst hb
      obtain ⟨h1, h2, h3, h4⟩ := ptrEq_sound (P := P) (w := w) hp hx hy
      exact fin _ h1 h2 (fun e => absurd e h3) h4 h
    · obtain ⟨h1, h2, h3, h4⟩ := ifaceEq_sound (P := P) (w := w) hb hx hy
      exact fin _ h1 h2 h3 h4 h
  · cases h

theorem unA_rel {op : UnOp} {x v : AV} {X : Value} (h : unA op x = some v) (hx : den ν x = some X) (w : World) : ∃ V, den ν v = some V ∧ (Op.unary op X).run P w = .ok V w := by
  unfold unA at h
  split at h
  · injection h with h
    simp only [den, Option.some.injEq] at hx
    subst hx h
    exact ⟨_, rfl, rfl⟩
  · rename_i k n
    simp only [den, Option.some.injEq] at hx
    subst hx
    simp only [intBinA, Option.some.injEq] at h
    subst h
    exact ⟨_, rfl, rfl⟩
  · injection h with h
    simp only [den, Option.some.injEq] at hx
    subst hx h
    exact ⟨_, rfl, rfl⟩
  · cases h

theorem indexAt_slice {t e : TypeId} {g off n C j z : Nat} {k : IntKind} (hu : P.underlying t = some (.slice e)) (hj : j < n) (hz : sizeT P e = some z) (w : World) :
    (Instr.indexAt t (.slice (some ⟨g, off, none⟩) n C) (.int k (.ofNat j))).run P w = .ok (.pointer (some ⟨g, off + j * z, none⟩)) w := by
  obtain ⟨i, hi, rfl⟩ := sizeT_spec hz
  have := run_indexAt (P := P) (w := w) (ad := ⟨g, off, none⟩) (n := n) (m := C) (k := k) (i := (j : Int)) hu hi (by omega) (by omega)
  rw [addr_add] at this
  exact this
theorem indexAt_array {t e : TypeId} {g off n j z : Nat} {k : IntKind} (hu : P.underlying t = some (.array n e)) (hj : j < n) (hz : sizeT P e = some z) (w : World) :
    (Instr.indexAt t (.pointer (some ⟨g, off, none⟩)) (.int k (.ofNat j))).run P w = .ok (.pointer (some ⟨g, off + j * z, none⟩)) w := by
  unfold Instr.indexAt
  simp only [asIntOf, bind, pure, Sem.bind]
  rw [run_bind, run_underlying hu]
  simp only [Sem.bind, Instr.sureAddr, pure]
  rw [run_bind, run_underlying hu]
  have h0 : (0 : Int) ≤ Int.ofNat j ∧ Int.ofNat j < (n : Int) := ⟨Int.natCast_nonneg j, Int.ofNat_lt.2 hj⟩
  simp only [h0, and_self, if_true]
  rw [run_bind, run_sizeT hz]
  simp only []
  show Result.ok (Value.pointer (some ((⟨g, off, none⟩ : Addr).add (j * z)))) w = _
  rw [addr_add]
end

end Go.Proofs.YtlijlapkhimaoaaGreatDoor
