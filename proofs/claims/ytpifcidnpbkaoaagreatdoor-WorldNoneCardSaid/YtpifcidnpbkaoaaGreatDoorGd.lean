/- The evaluator, 10: one operation. No program in sight. -/
import Derived.Test.YtpifcidnpbkaoaaGreatDoorGc
import Derived.Lib.ConvBytes
import Derived.IntWalk
namespace Go.Proofs.YtpifcidnpbkaoaaGreatDoor
open Go Go.RowKit

section
variable {P : Program} {w0 w : World} {A : Anch} {ν : Nm} {s : St} {T : Tr AV} {N : Nat} {a : Act}

theorem uni {v : AV} {R : Value → World → Prop} (h : ∀ w : World, ∃ V, den ν v = some V ∧ R V w) : ∃ V, den ν v = some V ∧ ∀ w, R V w := by
  obtain ⟨V, hV, _⟩ := h default
  refine ⟨V, hV, fun w => ?_⟩
  obtain ⟨U, hU, r⟩ := h w
  rw [hV] at hU
  injection hU with hU
  subst hU
  exact r
theorem run_val {x : Sem Value} {V : Value} {w w' : World} (h : x.run P w = .ok V w') : (Sem.bind x fun v => Sem.pure (Next.value v)).run P w = .ok (.value V) w' := by
  rw [run_bind, h]
  rfl
theorem run_unit {x : Sem Unit} {w w' : World} (h : x.run P w = .ok () w') : (Sem.bind x fun _ => Sem.pure Next.skip).run P w = .ok .skip w' := by
  rw [run_bind, h]
  rfl
theorem opt_den (hF : FRel ν T N a.tmps) {x : Option Operand} {l : Option AV} (h : optA T x = some l) : optD ν l (x.map a.eval) := by
  cases x with
  | none => simp only [optA, Option.some.injEq] at h; subst h; rfl
  | some x =>
    simp only [optA] at h
    split at h
    · rename_i v hv
      injection h with h
      subst h
      exact ⟨_, hF.evA hv, rfl⟩
    · cases h
theorem list_den (hF : FRel ν T N a.tmps) : ∀ {l : List Operand} {vs : List AV}, mapO (evA T) l = some vs → denL ν vs = some (l.map a.eval)
  | [], vs, h => by simp only [mapO, Option.some.injEq] at h; subst h; rfl
  | x :: l, vs, h => by
    simp only [mapO] at h
    split at h
    · cases h
    · rename_i y hy
      split at h
      · cases h
      · rename_i m hm
        injection h with h
        subst h
        exact denL_mk (hF.evA hy) (list_den hF hm)
theorem parts_den (hF : FRel ν T N a.tmps) : ∀ {l : List (Nat × Operand)} {ps : List (Nat × AV)}, mapO (fun p : Nat × Operand => (evA T p.2).map fun v => (p.1, v)) l = some ps → All2 (PRel ν) ps (l.map fun p => (p.1, a.eval p.2))
  | [], vs, h => by simp only [mapO, Option.some.injEq] at h; subst h; trivial
  | x :: l, vs, h => by
    simp only [mapO] at h
    split at h
    · cases h
    · rename_i y hy
      split at h
      · cases h
      · rename_i m hm
        injection h with h
        subst h
        rw [Option.map_eq_some_iff] at hy
        obtain ⟨v, hv, rfl⟩ := hy
        exact ⟨⟨rfl, hF.evA hv⟩, parts_den hF hm⟩
theorem bind_natOf {x : Option AV} {n : Nat} (h : x.bind natOf = some n) : ∃ v, x = some v ∧ natOf v = some n := by
  cases x with
  | none => cases h
  | some v => exact ⟨v, rfl, h⟩

theorem run_eqGuard {op : BinOp} {t : TypeId} {x y : Operand} {X Y : Value} (hg : P.eqGuardType P.depth t = false) : (eqGuard op t x y X Y).run P w = .ok () w ∨ (X = .nilIface ∧ Y = .nilIface) := by
  by_cases hn : X = .nilIface ∧ Y = .nilIface
  · exact .inr hn
  · left
    unfold eqGuard
    cases op <;> first | rfl | skip
    all_goals
      simp only [Bool.not_true, Bool.false_eq_true, if_false, bind]
      cases X <;> cases Y <;> first | rfl | (exact absurd ⟨rfl, rfl⟩ hn) | (simp [program, bind, Sem.bind, Sem.run, pure, hg])
theorem run_eqGuard2 {op : BinOp} {t : TypeId} {x y : Operand} {X Y : Value} (h : op ≠ .eql ∧ op ≠ .neq) : (eqGuard op t x y X Y).run P w = .ok () w := by
  unfold eqGuard
  cases op <;> first | rfl | exact absurd rfl h.1 | exact absurd rfl h.2
def simpleA : AV → Bool
  | .bool _ => true
  | .nptr => true
  | .ptr _ _ => true
  | .nslice => true
  | .slice .. => true
  | .nmap => true
  | .map _ => true
  | .func .. => true
  | .nfunc => true
  | .agg _ => true
  | _ => false
def simpleV : Value → Bool
  | .bool _ => true
  | .pointer _ => true
  | .slice .. => true
  | .map _ => true
  | .func .. => true
  | .nilFunc => true
  | .agg _ => true
  | _ => false
theorem simple_den {v : AV} {V : Value} (h : simpleA v = true) (hv : den ν v = some V) : simpleV V = true := by
  cases v <;> first | (cases h; done) | skip
  all_goals simp only [den] at hv
  all_goals repeat' split at hv
  all_goals first | (cases hv; done) | (injection hv with hv; subst hv; rfl)
theorem eqA_kinds {d : Nat} {t : TypeId} {x y : AV} {b : Bool} (h : eqA P d t x y = some b) : (∃ k p k' q, x = .int k p ∧ y = .int k' q) ∨ (∃ p q, x = .str p ∧ y = .str q) ∨ (simpleA x = true ∧ simpleA y = true) := by
  cases d with
  | zero => simp [eqA] at h
  | succ d =>
    unfold eqA at h
    split at h
    all_goals first
      | (cases h; done)
      | (split at h <;> first | (cases h; done) | exact .inr (.inr ⟨rfl, rfl⟩) | exact .inl ⟨_, _, _, _, rfl, rfl⟩ | exact .inr (.inl ⟨_, _, rfl, rfl⟩))
theorem run_eq_simple {t : TypeId} {X Y : Value} {b : Bool} {w : World} (hx : simpleV X = true) (hy : simpleV Y = true) (h : (Op.equal t X Y).run P w = .ok b w) : (binOp .eql t X Y).run P w = .ok (.bool b) w ∧ (binOp .neq t X Y).run P w = .ok (.bool !b) w := by
  have e1 : (Sem.bind (Op.equal t X Y) fun b => Sem.pure (Value.bool b)).run P w = .ok (.bool b) w := by rw [run_bind, h]; rfl
  have e2 : (Sem.bind (Op.equal t X Y) fun b => Sem.pure (Value.bool !b)).run P w = .ok (.bool !b) w := by rw [run_bind, h]; rfl
  cases X <;> first | (cases hx; done) | skip
  all_goals cases Y <;> first | (cases hy; done) | exact ⟨e1, e2⟩

theorem binA_rel {op : BinOp} {t : TypeId} {x y v : AV} {X Y : Value} (h : binA P op t x y = some v) (hx : den ν x = some X) (hy : den ν y = some Y) (xo yo : Operand) (w : World) :
    ∃ V, den ν v = some V ∧ (Sem.bind (eqGuard op t xo yo X Y) fun _ => binOp op t X Y).run P w = .ok V w := by
  unfold binA at h
  split at h
  · rename_i k p k' q
    simp only [den, Option.some.injEq] at hx hy
    subst hx hy
    have hg : (eqGuard op t xo yo (.int k p) (.int k' q)).run P w = .ok () w := by unfold eqGuard; cases op <;> rfl
    have go : (∃ V, den ν v = some V ∧ (binOp op t (.int k p) (.int k' q)).run P w = .ok V w) → ∃ V, den ν v = some V ∧ (Sem.bind (eqGuard op t xo yo (.int k p) (.int k' q)) fun _ => binOp op t (.int k p) (.int k' q)).run P w = .ok V w := fun ⟨V, h1, h2⟩ => ⟨V, h1, by rw [run_bind, hg]; exact h2⟩
    apply go
    split at h
    · exact run_shift h (.inl rfl) t
    · exact run_shift h (.inr rfl) t
    · split at h
      · rename_i hk
        have := kindEq_spec hk
        subst this
        exact run_intBin h t
      · cases h
  · rename_i p q
    simp only [den, Option.some.injEq] at hx hy
    subst hx hy
    obtain ⟨V, h1, h2⟩ := run_strBin (P := P) (w := w) (ν := ν) h t
    have hg : (eqGuard op t xo yo (.string ⟨p.toArray⟩) (.string ⟨q.toArray⟩)).run P w = .ok () w := by unfold eqGuard; cases op <;> rfl
    exact ⟨V, h1, by rw [run_bind, hg]; exact h2⟩
  · rename_i hni hns
    have key : ∀ (b : Bool), (op = .eql ∨ op = .neq) → P.eqGuardType P.depth t = false → eqA P 12 t x y = some b → (Sem.bind (eqGuard op t xo yo X Y) fun _ => binOp op t X Y).run P w = .ok (.bool (if op = .eql then b else !b)) w := fun b hop hgd hb => by
      have hr := eqA_sound (P := P) (w := w) 12 Op.maxDepth t x y b X Y (by decide) hb hx hy
      have hs : simpleV X = true ∧ simpleV Y = true := by
        rcases eqA_kinds hb with ⟨k, p, k', q, rfl, rfl⟩ | ⟨p, q, rfl, rfl⟩ | ⟨h1, h2⟩
        · exact absurd rfl (hni k p k' q rfl)
        · exact absurd rfl (hns p q rfl)
        · exact ⟨simple_den h1 hx, simple_den h2 hy⟩
      have hnn : ¬ (X = .nilIface ∧ Y = .nilIface) := fun hc => by
        rw [hc.1] at hs
        cases hs.1
      rw [run_bind, (run_eqGuard (w := w) (op := op) (x := xo) (y := yo) hgd).resolve_right hnn]
      simp only []
      have e1 := run_eq_simple (P := P) (t := t) hs.1 hs.2 hr
      rcases hop with rfl | rfl
      · simpa using e1.1
      · simpa using e1.2
    split at h
    · split at h
      · cases h
      · rename_i hgd
        rw [Option.map_eq_some_iff] at h
        obtain ⟨b, hb, rfl⟩ := h
        exact ⟨_, rfl, by have := key b (.inl rfl) hgd hb; simpa using this⟩
    · split at h
      · cases h
      · rename_i hgd
        rw [Option.map_eq_some_iff] at h
        obtain ⟨b, hb, rfl⟩ := h
        exact ⟨_, rfl, by have := key b (.inr rfl) hgd hb; simpa using this⟩
    · cases h

theorem tmOf_den {x : AV} {X : Value} {k : IntKind} {a : Tm} (h : tmOf x = some (k, a)) (hx : den ν x = some X) : ∃ n, denT ν a = some (.n n) ∧ X = .int k n := by
  unfold tmOf at h
  split at h
  · simp only [Option.some.injEq, Prod.mk.injEq] at h
    obtain ⟨rfl, rfl⟩ := h
    simp only [den, Option.some.injEq] at hx
    exact ⟨_, rfl, hx.symm⟩
  · simp only [Option.some.injEq, Prod.mk.injEq] at h
    obtain ⟨rfl, rfl⟩ := h
    obtain ⟨n, h1, h2⟩ := sym_den hx
    exact ⟨n, h1, h2⟩
  · cases h
theorem dec01 (c : Bool) : decide ((if c = true then (1 : Int) else 0) ≠ 0) = c := by cases c <;> rfl
theorem symBin_den {op : BinOp} {k : IntKind} {a b : Tm} {x y : Int} {v : AV} (h : symBin op k a b = some v) (ha : denT ν a = some (.n x)) (hb : denT ν b = some (.n y)) : op ≠ .shl ∧ op ≠ .shr ∧ ∃ u, intBinA op k x y = some u ∧ ∀ V, den ν u = some V → den ν v = some V := by
  cases op <;> simp only [symBin] at h <;> (try (cases h; done)) <;> injection h with h <;> subst h <;> refine ⟨by simp, by simp, _, rfl, fun V hV => ?_⟩ <;> simp only [den, Option.some.injEq] at hV <;> subst hV <;> simp only [den, denT, ha, hb, binZ, intBinA]
  all_goals exact congrArg (fun b => some (Value.bool b)) (dec01 _)
theorem binS_rel {op : BinOp} {t : TypeId} {x y v : AV} {X Y : Value} (h : binS P op t x y = some v) (hx : den ν x = some X) (hy : den ν y = some Y) (xo yo : Operand) (w : World) :
    ∃ V, den ν v = some V ∧ (Sem.bind (eqGuard op t xo yo X Y) fun _ => binOp op t X Y).run P w = .ok V w := by
  unfold binS at h
  split at h
  · rename_i u hu
    injection h with h
    subst h
    exact binA_rel hu hx hy xo yo w
  · unfold symA at h
    split at h
    · rename_i k a k' b ha hb
      split at h
      · rename_i hk
        have := kindEq_spec hk
        subst this
        obtain ⟨n, h1, rfl⟩ := tmOf_den ha hx
        obtain ⟨m, h2, rfl⟩ := tmOf_den hb hy
        obtain ⟨h3, h4, u, hu, hd⟩ := symBin_den h h1 h2
        have hb' : binA P op t (.int k n) (.int k m) = some u := by
          cases op <;> first | exact absurd rfl h3 | exact absurd rfl h4 | (simp only [binA, hk]; exact hu)
        obtain ⟨V, h5, h6⟩ := binA_rel (ν := ν) hb' rfl rfl xo yo w
        exact ⟨V, hd V h5, h6⟩
      · cases h
    · cases h

/-! ### pointers that are named; things behind interfaces -/
def plainV : Value → Bool
  | .pointer _ => true
  | .iface _ _ => true
  | .nilIface => true
  | _ => false
theorem run_eq_plain {t : TypeId} {X Y : Value} {b : Bool} {w : World} (hx : plainV X = true) (hy : plainV Y = true) (h : (Op.equal t X Y).run P w = .ok b w) : (binOp .eql t X Y).run P w = .ok (.bool b) w ∧ (binOp .neq t X Y).run P w = .ok (.bool !b) w := by
  have e1 : (Sem.bind (Op.equal t X Y) fun b => Sem.pure (Value.bool b)).run P w = .ok (.bool b) w := by rw [run_bind, h]; rfl
  have e2 : (Sem.bind (Op.equal t X Y) fun b => Sem.pure (Value.bool !b)).run P w = .ok (.bool !b) w := by rw [run_bind, h]; rfl
  cases X <;> first | (cases hx; done) | skip
  all_goals cases Y <;> first | (cases hy; done) | exact ⟨e1, e2⟩
theorem run_guard_plain {op : BinOp} {t : TypeId} {x y : Operand} {X Y : Value} {w : World} (hx : plainV X = true) (hc : X = .nilIface → Y = .nilIface → (isConst x || isConst y) = true) : (eqGuard op t x y X Y).run P w = .ok () w := by
  unfold eqGuard
  cases op <;> first | rfl | skip
  all_goals
    cases X <;> first | (cases hx; done) | skip
    all_goals cases Y <;> first | rfl | skip
    have := hc rfl rfl
    cases x <;> cases y <;> first | rfl | (cases this)
theorem addr_beq (g m n : Nat) : ((⟨g, m, none⟩ : Addr) == ⟨g, n, none⟩) = Nat.beq m n := by
  cases h : Nat.beq m n with
  | true =>
    have := Nat.eq_of_beq_eq_true h
    subst this
    simp
  | false =>
    have := Nat.ne_of_beq_eq_false h
    simp [this]
theorem ptrEq_sound {t : TypeId} {x y : AV} {b : Bool} {X Y : Value} {w : World} (h : ptrEq P t x y = some b) (hx : den ν x = some X) (hy : den ν y = some Y) : plainV X = true ∧ plainV Y = true ∧ X ≠ .nilIface ∧ (Op.equal t X Y).run P w = .ok b w := by
  unfold ptrEq at h
  split at h
  · rename_i e i m j n hu
    split at h
    · rename_i s hs hij
      have := Nat.eq_of_beq_eq_true hij
      subst this
      injection h with h
      subst h
      obtain ⟨g, hg, rfl⟩ := ptr_den hx
      obtain ⟨g', hg', rfl⟩ := ptr_den hy
      rw [hg] at hg'
      injection hg' with hg'
      subst hg'
      refine ⟨rfl, rfl, by simp, ?_⟩
      obtain ⟨inf, hi, hsz⟩ := sizeT_spec hs
      show (Op.equalIn (9999 + 1) t _ _).run P w = _
      rw [Op.equalIn]
      show (Sem.bind (underlying t) _).run P w = _
      rw [run_bind, run_underlying hu]
      simp only [bind]
      rw [run_bind, run_sizeOf hi]
      simp only []
      rw [if_pos (by omega)]
      unfold sameAddr
      rw [if_pos (by simp)]
      show Result.ok _ _ = _
      rw [addr_beq]
    · cases h
  · cases h
theorem ifaceEq_sound {t : TypeId} {c b : Bool} {x y : AV} {X Y : Value} {w : World} (h : ifaceEq P t c x y = some b) (hx : den ν x = some X) (hy : den ν y = some Y) : plainV X = true ∧ plainV Y = true ∧ (X = .nilIface → Y = .nilIface → c = true) ∧ (Op.equal t X Y).run P w = .ok b w := by
  unfold ifaceEq at h
  split at h
  · rename_i ms hu
    have go : ∀ {U V : Value} {q : Bool}, (∀ {s : TypeDesc → Sem Bool}, (s (.interface ms)).run P w = .ok q w → (Sem.bind (underlying t) s).run P w = .ok q w) := fun hs => by
      rw [run_bind, run_underlying hu]; exact hs
    split at h
    · split at h
      · injection h with h
        subst h
        simp only [den, Option.some.injEq] at hx hy
        subst hx hy
        refine ⟨rfl, rfl, fun _ _ => rfl, ?_⟩
        show (Op.equalIn (9999 + 1) t _ _).run P w = _
        rw [Op.equalIn]
        exact go (U := .nilIface) (V := .nilIface) rfl
      · cases h
    · rename_i ty vy
      injection h with h
      subst h
      simp only [den, Option.some.injEq] at hx
      subst hx
      simp only [den] at hy
      split at hy
      · rename_i V hV
        injection hy with hy
        subst hy
        refine ⟨rfl, rfl, fun _ e => (by cases e), ?_⟩
        show (Op.equalIn (9999 + 1) t _ _).run P w = _
        rw [Op.equalIn]
        exact go (U := .nilIface) (V := .nilIface) rfl
      · cases hy
    · rename_i ty vy
      injection h with h
      subst h
      simp only [den, Option.some.injEq] at hy
      subst hy
      simp only [den] at hx
      split at hx
      · rename_i V hV
        injection hx with hx
        subst hx
        refine ⟨rfl, rfl, fun e => (by cases e), ?_⟩
        show (Op.equalIn (9999 + 1) t _ _).run P w = _
        rw [Op.equalIn]
        exact go (U := .nilIface) (V := .nilIface) rfl
      · cases hx
    · rename_i tx vx ty vy
      simp only [den] at hx hy
      split at hx
      · rename_i VX hVX
        injection hx with hx
        subst hx
        split at hy
        · rename_i VY hVY
          injection hy with hy
          subst hy
          refine ⟨rfl, rfl, fun e => (by cases e), ?_⟩
          show (Op.equalIn (9999 + 1) t _ _).run P w = _
          rw [Op.equalIn]
          refine go (U := .nilIface) (V := .nilIface) ?_
          split at h
          · rename_i hne
            injection h with h
            subst h
            have := Nat.ne_of_beq_eq_false hne
            simp only [bind]
            rw [if_pos this]
            rfl
          · rename_i he
            have := Nat.eq_of_beq_eq_true he
            subst this
            split at h
            · rename_i inf hi
              split at h
              · rename_i hcmp
                simp only [bind]
                rw [if_neg (by simp), run_bind, run_info hi]
                simp only [hcmp]
                exact eqA_sound (P := P) (w := w) 12 9999 tx vx vy b VX VY (by decide) h hVX hVY
              · cases h
            · cases h
        · cases hy
      · cases hx
    · cases h
  · cases h
theorem eqlA_rel {op : BinOp} {t : TypeId} {x y v : AV} {X Y : Value} {xo yo : Operand} (h : eqlA P op t (isConst xo || isConst yo) x y = some v) (hx : den ν x = some X) (hy : den ν y = some Y) (w : World) :
    ∃ V, den ν v = some V ∧ (Sem.bind (eqGuard op t xo yo X Y) fun _ => binOp op t X Y).run P w = .ok V w := by
  unfold eqlA at h
  have fin : ∀ b, plainV X = true → plainV Y = true → (X = .nilIface → Y = .nilIface → (isConst xo || isConst yo) = true) → (Op.equal t X Y).run P w = .ok b w →
      (match (generalizing := false) op with | .eql => some (AV.bool b) | .neq => some (.bool (!b)) | _ => none) = some v → ∃ V, den ν v = some V ∧ (Sem.bind (eqGuard op t xo yo X Y) fun _ => binOp op t X Y).run P w = .ok V w := fun b h1 h2 h3 h4 h5 => by
    obtain ⟨e1, e2⟩ := run_eq_plain (P := P) h1 h2 h4
    rw [run_bind, run_guard_plain (P := P) (op := op) (t := t) (w := w) h1 h3]
    simp only []
    cases op <;> simp only at h5 <;> (try (cases h5; done)) <;> injection h5 with h5 <;> subst h5
    · exact ⟨_, rfl, e1⟩
    · exact ⟨_, rfl, e2⟩
  split at h
  · rename_i b hb
    split at hb
    · rename_i b' hp
      injection hb with hb
      subst hb
      obtain ⟨h1, h2, h3, h4⟩ := ptrEq_sound (P := P) (w := w) hp hx hy
      exact fin _ h1 h2 (fun e => absurd e h3) h4 h
    · obtain ⟨h1, h2, h3, h4⟩ := ifaceEq_sound (P := P) (w := w) hb hx hy
      exact fin _ h1 h2 h3 h4 h
  · cases h

theorem unA_rel {op : UnOp} {x v : AV} {X : Value} (h : unA op x = some v) (hx : den ν x = some X) (w : World) : ∃ V, den ν v = some V ∧ (Op.unary op X).run P w = .ok V w := by
  unfold unA at h
  split at h
  · injection h with h
    simp only [den, Option.some.injEq] at hx
    subst hx h
    exact ⟨_, rfl, rfl⟩
  · rename_i k n
    simp only [den, Option.some.injEq] at hx
    subst hx
    simp only [intBinA, Option.some.injEq] at h
    subst h
    exact ⟨_, rfl, rfl⟩
  · injection h with h
    simp only [den, Option.some.injEq] at hx
    subst hx h
    exact ⟨_, rfl, rfl⟩
  · cases h

theorem indexAt_slice {t e : TypeId} {g off n C j z : Nat} {k : IntKind} (hu : P.underlying t = some (.slice e)) (hj : j < n) (hz : sizeT P e = some z) (w : World) :
    (Instr.indexAt t (.slice (some ⟨g, off, none⟩) n C) (.int k (.ofNat j))).run P w = .ok (.pointer (some ⟨g, off + j * z, none⟩)) w := by
  obtain ⟨i, hi, rfl⟩ := sizeT_spec hz
  have := run_indexAt (P := P) (w := w) (ad := ⟨g, off, none⟩) (n := n) (m := C) (k := k) (i := (j : Int)) hu hi (by omega) (by omega)
  rw [addr_add] at this
  exact this
theorem indexAt_array {t e : TypeId} {g off n j z : Nat} {k : IntKind} (hu : P.underlying t = some (.array n e)) (hj : j < n) (hz : sizeT P e = some z) (w : World) :
    (Instr.indexAt t (.pointer (some ⟨g, off, none⟩)) (.int k (.ofNat j))).run P w = .ok (.pointer (some ⟨g, off + j * z, none⟩)) w := by
  unfold Instr.indexAt
  simp only [asIntOf, bind, pure, Sem.bind]
  rw [run_bind, run_underlying hu]
  simp only [Sem.bind, Instr.sureAddr, pure]
  rw [run_bind, run_underlying hu]
  have h0 : (0 : Int) ≤ Int.ofNat j ∧ Int.ofNat j < (n : Int) := ⟨Int.natCast_nonneg j, Int.ofNat_lt.2 hj⟩
  simp only [h0, and_self, if_true]
  rw [run_bind, run_sizeT hz]
  simp only []
  show Result.ok (Value.pointer (some ((⟨g, off, none⟩ : Addr).add (j * z)))) w = _
  rw [addr_add]
end

end Go.Proofs.YtpifcidnpbkaoaaGreatDoor

/- The evaluator, 11: operations. No program in sight. -/
namespace Go.Proofs.YtpifcidnpbkaoaaGreatDoor
open Go Go.RowKit

section
variable {P : Program} {w0 w : World} {A : Anch} {ν : Nm} {s : St} {T : Tr AV} {N : Nat} {a : Act}

theorem arr_of {α : Type} {x : Array α} {l : List α} (h : x.toList = l) : x = l.toArray := by rw [← h]
theorem run_builtin {o : Oper} {c : Call} {b : Builtin} (hop : o.op = .call c) (hc : c.callee = .builtin b) (ρ : Operand → Value) (w : World) :
    (execOp ρ o).run P w = (builtin b c.argTypes o.type (c.args.map fun | .const _ => true | _ => false) (c.args.map ρ)).run P w := by
  unfold execOp
  rw [hop]
  simp only [resolve, hc, bind, pure, Sem.bind, invoke]
  rfl
theorem fnOf_spec {f : AFn} {fn : Fn} (h : fnOf ν f = some fn) : (∃ g, fn = .func g) ∨ ∃ g, fn = .yield g := by
  cases f with
  | func g => simp only [fnOf, Option.some.injEq] at h; exact .inl ⟨g, h.symm⟩
  | yield l =>
    simp only [fnOf] at h
    split at h
    · injection h with h; exact .inr ⟨_, h.symm⟩
    · cases h

theorem run_len {t ty : TypeId} {d : TypeDesc} {x v : AV} {X : Value} (hu : P.underlying t = some d) (h : lenT P s d x = some v) (hx : den ν x = some X) (hd : (∀ k e, d ≠ .map k e) ∨ WRel P w0 A ν s w) (rest : List TypeId) :
    ∃ V, den ν v = some V ∧ (Builtin.len_ (t :: rest).toArray ty #[X]).run P w = .ok V w := by
  have start : ∀ {f : TypeDesc → Sem Value} {V : Value}, (f d).run P w = .ok V w → (Sem.bind (underlying t) f).run P w = .ok V w := fun hf => by rw [run_bind, run_underlying hu]; exact hf
  unfold lenT at h
  unfold Builtin.len_
  simp only [List.getElem?_toArray, List.getElem?_cons_zero, bind]
  split at h
  · injection h with h
    simp only [den, Option.some.injEq] at hx
    subst hx h
    exact ⟨_, rfl, start rfl⟩
  · injection h with h
    simp only [den, Option.some.injEq] at hx
    subst hx h
    exact ⟨_, rfl, start rfl⟩
  · injection h with h
    obtain ⟨g, C, _, _, _, rfl⟩ := slice_den hx
    subst h
    exact ⟨_, rfl, start rfl⟩
  · injection h with h
    subst h
    exact ⟨_, rfl, start rfl⟩
  · rename_i el _
    split at h
    · rename_i n e he
      injection h with h
      subst h
      refine ⟨_, rfl, start ?_⟩
      simp only []
      rw [run_bind, run_underlying he]
      rfl
    · cases h
  · injection h with h
    simp only [den, Option.some.injEq] at hx
    subst hx h
    exact ⟨_, rfl, start rfl⟩
  · rename_i kt e i
    obtain ⟨g, hg, rfl⟩ := map_den hx
    rcases hd with hd | hW
    · exact absurd rfl (hd _ _)
    · split at h
      · rename_i es c hi
        injection h with h
        subst h
        obtain ⟨arr, ho, harr⟩ := hW.map_ hi hg
        refine ⟨_, rfl, start ?_⟩
        simp only []
        rw [run_bind, run_getObj ho (by simp)]
        have := harr.length
        simp only [Array.length_toList] at this
        rw [this]
        rfl
      · cases h
  · cases h

theorem run_fieldAt {st : TypeId} {fields : Array Field} {f : Nat} {fd : Field} {g off n : Nat} (hu : P.underlying st = some (.struct fields)) (hf : fields[f]? = some fd) (hs : sizeT P fd.type = some (n + 1)) (w : World) :
    (Instr.fieldAt st (.pointer (some ⟨g, off, none⟩)) f).run P w = .ok (.pointer (some ⟨g, off + fd.offset, none⟩)) w := by
  unfold Instr.fieldAt
  simp only [bind]
  rw [run_bind, run_underlying hu]
  simp only [hf]
  show (Sem.bind (Instr.sureAddr _) _).run P w = _
  rw [run_bind]
  show (Sem.bind (fieldPlace ⟨g, off, none⟩ fd) _).run P w = _
  rw [run_bind]
  unfold fieldPlace
  simp only [bind]
  rw [run_bind, run_sizeT hs]
  simp only [Nat.add_one_ne_zero, if_false]
  show Result.ok (Value.pointer (some ((⟨g, off, none⟩ : Addr).add fd.offset))) w = _
  rw [addr_add]

theorem pure0_rel {o : Oper} (hF : FRel ν T N a.tmps) (hwl : worldless P o.op = true) {v : AV} (h : pureA P s T o.op = some v) : ∃ V, den ν v = some V ∧ ∀ w, (execOp a.eval o).run P w = .ok (.value V) w := by
  apply uni
  intro w
  have fin : ∀ {x : Sem Value}, (∃ V, den ν v = some V ∧ x.run P w = .ok V w) → (execOp a.eval o = Sem.bind x fun v => Sem.pure (Next.value v)) → ∃ V, den ν v = some V ∧ (execOp a.eval o).run P w = .ok (.value V) w := fun ⟨V, h1, h2⟩ e => ⟨V, h1, by rw [e]; exact run_val h2⟩
  cases hop : o.op <;> rw [hop] at h hwl <;> simp only [pureA] at h <;> (try (cases h; done))
  case move x => exact ⟨_, hF.evA h, by unfold execOp; rw [hop]; rfl⟩
  case assign x => exact ⟨_, hF.evA h, by unfold execOp; rw [hop]; rfl⟩
  case pick c x y =>
    split at h
    · rename_i hc
      have := hF.evA hc
      simp only [den, Option.some.injEq] at this
      exact ⟨_, hF.evA h, by unfold execOp; rw [hop]; simp only [← this]; rfl⟩
    · rename_i hc
      have := hF.evA hc
      simp only [den, Option.some.injEq] at this
      exact ⟨_, hF.evA h, by unfold execOp; rw [hop]; simp only [← this]; rfl⟩
    · cases h
  case build t parts =>
    split at h
    · rename_i ps hps
      have hp := parts_den hF hps
      refine fin (x := Instr.build t (parts.map fun (i, x) => (i, a.eval x))) (run_build ?_ h trivial) (by unfold execOp; rw [hop]; rfl)
      simpa using hp
    · cases h
  case load => cases hwl
  case nilCheck x =>
    have key : ∀ {u : AV}, evA T x = some u → u ≠ .nptr → u ≠ .niface → u ≠ .nfunc → (∀ v, u ≠ .ext v) → ∃ V, den ν u = some V ∧ (execOp a.eval o).run P w = .ok (.value V) w := fun {u} hu h1 h2 h3 h4 => by
      have hd := hF.evA hu
      refine ⟨_, hd, ?_⟩
      unfold execOp
      rw [hop]
      simp only []
      cases u <;> simp only [den] at hd <;> (repeat' split at hd) <;> (try (cases hd; done))
      all_goals first
        | exact absurd rfl h1
        | exact absurd rfl h2
        | exact absurd rfl h3
        | exact absurd rfl (h4 _)
        | skip
      all_goals injection hd with hd
      all_goals rw [← hd]
      all_goals first
        | rfl
        | (rename_i hfn _ _
           rcases fnOf_spec hfn with ⟨g, rfl⟩ | ⟨g, rfl⟩ <;> rfl)
    split at h
    · cases h
    · cases h
    · cases h
    · cases h
    · rename_i r n1 n2 n3 n4
      exact key h (fun e => n1 (by rw [h, e])) (fun e => n2 (by rw [h, e])) (fun e => n3 (by rw [h, e])) (fun v e => n4 v (by rw [h, e]))
  case binOp op t x y t2 =>
    split at h
    · rename_i p q hp hq
      split at h
      · rename_i u hu
        injection h with h
        subst h
        exact fin (binS_rel hu (hF.evA hp) (hF.evA hq) x y w) (by unfold execOp; rw [hop]; rfl)
      · exact fin (eqlA_rel h (hF.evA hp) (hF.evA hq) w) (by unfold execOp; rw [hop]; rfl)
    · cases h
  case unOp op t x =>
    split at h
    · rename_i p hp
      exact fin (unA_rel h (hF.evA hp) w) (by unfold execOp; rw [hop]; rfl)
    · cases h
  case convert src dst x =>
    have run_ : ∀ {d1 d2 : TypeDesc} {V : Value}, P.underlying src = some d1 → P.underlying dst = some d2 → (∀ (f : TypeDesc → TypeDesc → Sem Value), (Sem.bind (underlying src) fun a => Sem.bind (underlying dst) fun b => f a b).run P w = (f d1 d2).run P w) := fun h1 h2 f => by
      rw [run_bind, run_underlying h1]
      simp only []
      rw [run_bind, run_underlying h2]
    split at h
    · rename_i k n hx
      have hd := hF.evA hx
      simp only [den, Option.some.injEq] at hd
      split at h
      · rename_i d1 k' h1 h2
        injection h with h
        subst h
        refine fin (x := convert src dst (a.eval x)) ⟨_, rfl, ?_⟩ (by unfold execOp; rw [hop]; rfl)
        rw [← hd]
        refine (run_ h1 h2 (V := .bool true) _).trans ?_
        rfl
      · cases h
    · rename_i b hx
      have hd := hF.evA hx
      simp only [den, Option.some.injEq] at hd
      split at h
      · rename_i d1 h1 h2
        injection h with h
        subst h
        refine fin (x := convert src dst (a.eval x)) ⟨_, rfl, ?_⟩ (by unfold execOp; rw [hop]; rfl)
        rw [← hd]
        refine (run_ h1 h2 (V := .bool true) _).trans ?_
        rfl
      · cases h
    · rename_i k u hx
      obtain ⟨n, hn, hd⟩ := sym_den (hF.evA hx)
      split at h
      · rename_i d1 k' h1 h2
        injection h with h
        subst h
        refine fin (x := convert src dst (a.eval x)) ⟨.int k' (k'.wrap n), by simp only [den, denT, hn], ?_⟩ (by unfold execOp; rw [hop]; rfl)
        rw [hd]
        refine (run_ h1 h2 (V := .bool true) _).trans ?_
        rfl
      · cases h
    · split at h
      · rename_i hsl _
        simp only [worldless, hsl] at hwl
        cases hwl
      · cases h
    · cases h
  case makeInterface t x =>
    cases hu : P.underlying t with
    | none => simp [hu] at h
    | some d =>
      cases hp : evA T x with
      | none => rw [hu, hp] at h; cases d <;> cases h
      | some p =>
        rw [hu, hp] at h
        have hv : v = .iface t p := by cases d <;> first | (cases h; done) | (injection h with h; exact h.symm)
        subst hv
        refine fin (x := Instr.makeInterface t (a.eval x)) ⟨.iface t (a.eval x), by simp only [den, hF.evA hp], ?_⟩ (by unfold execOp; rw [hop]; rfl)
        unfold Instr.makeInterface
        simp only [bind]
        rw [run_bind, run_underlying hu]
        cases d <;> first | (cases h; done) | rfl
  case makeFunc fn first cap =>
    split at h
    · rename_i f p q hp hq
      injection h with h
      subst h
      refine ⟨.func (.func f) (first.map a.eval) (cap.map a.eval), ?_, by unfold execOp; rw [hop]; rfl⟩
      simp only [den, fnOf, list_den hF hp, list_den hF hq]
      have e : ∀ x : Array Operand, (x.toList.map a.eval).toArray = x.map a.eval := fun x => Array.ext' (by simp)
      rw [e, e]
    · cases h
  case slice t x lo hi mx =>
    split at h
    · rename_i p l hh m hp hl hhi hm
      refine fin (x := Instr.sliceAt t (a.eval x) (lo.map a.eval) (hi.map a.eval) (mx.map a.eval)) (run_slice (hF.evA hp) (opt_den hF hl) (opt_den hF hhi) (opt_den hF hm) h) (by unfold execOp; rw [hop]; rfl)
    · cases h
  case fieldAddr st x f =>
    split at h
    · rename_i fields i off hu hp
      split at h
      · rename_i fd hf
        split at h
        · cases h
        · rename_i n hne hs
          injection h with h
          subst h
          obtain ⟨g, hg, e⟩ := ptr_den (hF.evA hp)
          cases n with
          | zero => exact absurd rfl hne
          | succ n =>
            refine fin (x := Instr.fieldAt st (a.eval x) f) ⟨.pointer (some ⟨g, off + fd.offset, none⟩), by simp only [den, hg], ?_⟩ (by unfold execOp; rw [hop]; rfl)
            rw [e]
            exact run_fieldAt hu hf hs w
        · cases h
      · cases h
    · rename_i fields g off hu hp
      have e := hF.evA hp
      simp only [den, Option.some.injEq] at e
      split at h
      · rename_i fd hf
        split at h
        · cases h
        · rename_i n hne hs
          injection h with h
          subst h
          cases n with
          | zero => exact absurd rfl hne
          | succ n =>
            refine fin (x := Instr.fieldAt st (a.eval x) f) ⟨.pointer (some ⟨g, off + fd.offset, none⟩), by simp only [den], ?_⟩ (by unfold execOp; rw [hop]; rfl)
            rw [← e]
            exact run_fieldAt hu hf hs w
        · cases h
      · cases h
    · cases h
  case field st x f =>
    split at h
    · rename_i fields cs hu hp
      split at h
      · rename_i fd hf
        obtain ⟨L, hL, e⟩ := agg_den (hF.evA hp)
        obtain ⟨V, h1, h2⟩ := run_part (P := P) (w := w) hL h
        refine fin (x := Instr.field st (a.eval x) f) ⟨V, h1, ?_⟩ (by unfold execOp; rw [hop]; rfl)
        rw [e]
        unfold Instr.field
        simp only [bind]
        rw [run_bind, run_underlying hu]
        simp only [hf]
        exact h2
      · cases h
    · cases h
  case indexAddr t x ix =>
    split at h
    · rename_i n e b off j hu hp hj
      obtain ⟨u, hu1, hu2⟩ := bind_natOf hj
      obtain ⟨k, rfl⟩ := natOf_spec hu2
      have hi := hF.evA hu1
      simp only [den, Option.some.injEq] at hi
      obtain ⟨g, hg, eg⟩ := ptr_den (hF.evA hp)
      split at h
      · rename_i z hle hz
        injection h with h
        subst h
        refine fin (x := Instr.indexAt t (a.eval x) (a.eval ix)) ⟨.pointer (some ⟨g, off + j * z, none⟩), by simp only [den, hg], ?_⟩ (by unfold execOp; rw [hop]; rfl)
        rw [eg, ← hi]
        exact indexAt_array hu (Nat.le_of_ble_eq_true hle) hz w
      · cases h
    · rename_i n e g off j hu hp hj
      obtain ⟨u, hu1, hu2⟩ := bind_natOf hj
      obtain ⟨k, rfl⟩ := natOf_spec hu2
      have hi := hF.evA hu1
      simp only [den, Option.some.injEq] at hi
      have eg := hF.evA hp
      simp only [den, Option.some.injEq] at eg
      split at h
      · rename_i z hle hz
        injection h with h
        subst h
        refine fin (x := Instr.indexAt t (a.eval x) (a.eval ix)) ⟨.pointer (some ⟨g, off + j * z, none⟩), by simp only [den], ?_⟩ (by unfold execOp; rw [hop]; rfl)
        rw [← eg, ← hi]
        exact indexAt_array hu (Nat.le_of_ble_eq_true hle) hz w
      · cases h
    · rename_i e b off n c j hu hp hj
      obtain ⟨u, hu1, hu2⟩ := bind_natOf hj
      obtain ⟨k, rfl⟩ := natOf_spec hu2
      have hi := hF.evA hu1
      simp only [den, Option.some.injEq] at hi
      obtain ⟨g, C, hg, hC, hle', eg⟩ := slice_den (hF.evA hp)
      split at h
      · rename_i z hle hz
        injection h with h
        subst h
        refine fin (x := Instr.indexAt t (a.eval x) (a.eval ix)) ⟨.pointer (some ⟨g, off + j * z, none⟩), by simp only [den, hg], ?_⟩ (by unfold execOp; rw [hop]; rfl)
        rw [eg, ← hi]
        exact indexAt_slice hu (Nat.le_of_ble_eq_true hle) hz w
      · cases h
    · cases h
  case index t x ix =>
    split at h
    · rename_i n e cs j hu hp hj
      obtain ⟨u, hu1, hu2⟩ := bind_natOf hj
      obtain ⟨k, rfl⟩ := natOf_spec hu2
      have hi := hF.evA hu1
      simp only [den, Option.some.injEq] at hi
      obtain ⟨L, hL, eg⟩ := agg_den (hF.evA hp)
      split at h
      · rename_i z hle hz
        obtain ⟨V, h1, h2⟩ := run_part (P := P) (w := w) hL h
        refine fin (x := Instr.index t (a.eval x) (a.eval ix)) ⟨V, h1, ?_⟩ (by unfold execOp; rw [hop]; rfl)
        rw [eg, ← hi]
        unfold Instr.index
        simp only [asIntOf, bind, pure, Sem.bind]
        rw [run_bind, run_underlying hu]
        have h0 : (0 : Int) ≤ Int.ofNat j ∧ Int.ofNat j < (n : Int) := ⟨Int.natCast_nonneg j, Int.ofNat_lt.2 (Nat.le_of_ble_eq_true hle)⟩
        simp only [h0, and_self, if_true]
        rw [run_bind, run_sizeT hz]
        exact h2
      · cases h
    · rename_i b j hu hp hj
      obtain ⟨u, hu1, hu2⟩ := bind_natOf hj
      obtain ⟨k, rfl⟩ := natOf_spec hu2
      have hi := hF.evA hu1
      have hs := hF.evA hp
      simp only [den, Option.some.injEq] at hi hs
      split at h
      · rename_i c hc
        injection h with h
        subst h
        refine fin (x := Instr.index t (a.eval x) (a.eval ix)) ⟨_, rfl, ?_⟩ (by unfold execOp; rw [hop]; rfl)
        rw [← hs, ← hi]
        unfold Instr.index
        simp only [asIntOf, bind, pure, Sem.bind]
        rw [run_bind, run_underlying hu]
        have h0 : (0 : Int) ≤ Int.ofNat j := Int.natCast_nonneg j
        have hb : (ByteArray.mk b.toArray)[j]? = some c := by
          have hlt : j < b.length := (List.getElem?_eq_some_iff.1 hc).1
          have hlt' : j < (ByteArray.mk b.toArray).size := hlt
          rw [getElem?_pos _ j hlt']
          have := (List.getElem?_eq_some_iff.1 hc).2
          congr 1
        simp only [h0, if_true, Int.ofNat_eq_natCast, Int.toNat_natCast, hb]
        rfl
      · cases h
    · cases h
  case lookup => cases hwl
  case extract x i =>
    split at h
    · rename_i l hp
      obtain ⟨L, hL, e⟩ := tup_den (hF.evA hp)
      obtain ⟨V, h1, h2⟩ := denL_get hL h
      refine fin (x := Instr.extract (a.eval x) i) ⟨V, h2, ?_⟩ (by unfold execOp; rw [hop]; rfl)
      rw [e]
      unfold Instr.extract
      simp only [List.getElem?_toArray, h1]
      rfl
    · cases h
  case entry => cases hwl
  case typeAssert x t1 t ok =>
    cases hu : P.underlying t with
    | none => simp [hu] at h
    | some d =>
      cases hp : evA T x with
      | none => rw [hu, hp] at h; cases d <;> cases h
      | some p =>
        rw [hu, hp] at h
        cases p <;> (try (cases d <;> cases h; done))
        rename_i t' u
        have hk : (match Nat.beq t' t with | true => some (if ok = true then AV.tup [u, .bool true] else u) | false => none) = some v ∧ ∀ ms, d ≠ .interface ms := by cases d <;> first | (cases h; done) | exact ⟨h, fun _ e => by cases e⟩
        obtain ⟨h2, hni⟩ := hk
        clear h
        cases ht : Nat.beq t' t with
        | false => rw [ht] at h2; cases h2
        | true =>
          rw [ht] at h2
          have ht := Nat.eq_of_beq_eq_true ht
          subst ht
          have h : (if ok = true then AV.tup [u, .bool true] else u) = v := Option.some.inj h2
          subst h
          have hd := hF.evA hp
          simp only [den] at hd
          cases hU : den ν u with
          | none => rw [hU] at hd; cases hd
          | some U =>
            rw [hU] at hd
            injection hd with hd
            refine fin (x := Instr.typeAssert (a.eval x) t1 t' ok) ⟨if ok then .tuple #[U, .bool true] else U, ?_, ?_⟩ (by unfold execOp; rw [hop]; rfl)
            · cases ok with
              | true => simp [den, denL, hU]
              | false => exact hU
            · rw [← hd]
              unfold Instr.typeAssert
              simp only [bind]
              rw [run_bind, run_underlying hu]
              cases d <;> first | (exact absurd rfl (hni _)) | (simp only [if_true]; rfl)
  case call c =>
    split at h
    · rename_i hc
      split at h
      · rename_i x t hx ht
        split at h
        · rename_i d u hu hp
          have hnm : ∀ k e, d ≠ .map k e := fun k e hd => by
            subst hd
            simp only [worldless, hc, ht, hu] at hwl
            cases hwl
          have hat : ∃ rest, c.argTypes = (t :: rest).toArray := by
            cases hL : c.argTypes.toList with
            | nil => rw [← Array.getElem?_toList, hL] at ht; cases ht
            | cons t' rest =>
              rw [← Array.getElem?_toList, hL] at ht
              injection ht with ht
              subst ht
              exact ⟨rest, arr_of hL⟩
          obtain ⟨rest, hat⟩ := hat
          obtain ⟨V, h1, h2⟩ := run_len (P := P) (w0 := w) (A := ⟨.e, ⟨fun _ => none, fun _ => none, fun _ _ => none⟩, w⟩) (w := w) (ty := o.type) hu h (hF.evA hp) (.inl hnm) rest
          refine ⟨V, h1, ?_⟩
          rw [run_builtin hop hc, hat, arr_of hx]
          simp only [List.map_toArray, List.map_cons, List.map_nil]
          exact run_val h2
        · cases h
      · cases h
    · rename_i hc
      split at h
      · rename_i x y hx
        split at h
        · rename_i k p k' q hp hq
          injection h with h
          subst h
          have d1 := hF.evA hp
          have d2 := hF.evA hq
          simp only [den, Option.some.injEq] at d1 d2
          refine ⟨_, rfl, ?_⟩
          rw [run_builtin hop hc, arr_of hx]
          simp only [List.map_toArray, List.map_cons, List.map_nil, ← d1, ← d2]
          rfl
        · cases h
      · cases h
    · rename_i hc
      split at h
      · rename_i x y hx
        split at h
        · rename_i k p k' q hp hq
          injection h with h
          subst h
          have d1 := hF.evA hp
          have d2 := hF.evA hq
          simp only [den, Option.some.injEq] at d1 d2
          refine ⟨_, rfl, ?_⟩
          rw [run_builtin hop hc, arr_of hx]
          simp only [List.map_toArray, List.map_cons, List.map_nil, ← d1, ← d2]
          rfl
        · cases h
      · cases h
    · cases h
end

end Go.Proofs.YtpifcidnpbkaoaaGreatDoor

/- The evaluator, 12: operations that read, that write, that make things. No program in sight. -/
namespace Go.Proofs.YtpifcidnpbkaoaaGreatDoor
open Go Go.RowKit

def repV (l : List Value) : Nat → List Value
  | 0 => []
  | n + 1 => l ++ repV l n
theorem repV_get (l : List Value) : ∀ (n i : Nat), (repV l n)[i]? = if i < n * l.length then l[i % l.length]? else none
  | 0, i => by simp [repV]
  | n + 1, i => by
    simp only [repV]
    by_cases h : i < l.length
    · rw [List.getElem?_append_left h, Nat.mod_eq_of_lt h, if_pos (by rw [Nat.add_mul]; omega)]
    · rw [List.getElem?_append_right (by omega), repV_get l n]
      have e : (i - l.length) % l.length = i % l.length := by
        rw [Nat.mod_eq_sub_mod (a := i) (by omega)]
      rw [e]
      by_cases h2 : i < (n + 1) * l.length
      · rw [if_pos h2, if_pos (by rw [Nat.add_mul] at h2; omega)]
      · rw [if_neg h2, if_neg (by rw [Nat.add_mul] at h2; omega)]
theorem zeros_eq (z : Array Value) (n : Nat) : ((Array.range (n * z.size)).map fun i => z[i % z.size]!).toList = repV z.toList n := by
  apply List.ext_getElem?
  intro i
  rw [repV_get, Array.toList_map, List.getElem?_map, Array.toList_range]
  simp only [Array.length_toList]
  by_cases h : i < n * z.size
  · rw [if_pos h, List.getElem?_range h]
    have hz : 0 < z.size := by
      rcases Nat.eq_zero_or_pos z.size with h0 | h0
      · rw [h0] at h; simp at h
      · exact h0
    have hm := Nat.mod_lt i hz
    simp [hm]
  · rw [if_neg h, List.getElem?_eq_none (by simpa using h)]
    rfl

section
variable {P : Program} {w0 w : World} {A : Anch} {ν : Nm} {s : St} {T : Tr AV} {N : Nat} {a : Act}

theorem repL_den {l : List AV} {L : List Value} (h : denL ν l = some L) : ∀ n, denL ν (repL l n) = some (repV L n)
  | 0 => rfl
  | n + 1 => denL_append h (repL_den h n)
theorem zero_cells {z : AV} {Z : Value} (hZ : den ν z = some Z) (h1 : (cellsA z).all oneA = true) {n : Nat} (hn : (cellsA z).length = n) : denL ν (cellsA z) = some Z.cells.toList ∧ Z.cells.size = n := by
  have := cells_den hZ h1
  exact ⟨this, by have := denL_len this; simp at this; omega⟩
theorem wrap_small {n : Nat} (h : n ≤ most) : IntKind.i64.wrap (Int.ofNat n) = (n : Int) := by
  unfold most at h
  exact IntWalk.i64_in (n : Int) ⟨by omega, by omega⟩
theorem repV_nil : ∀ n, repV [] n = []
  | 0 => rfl
  | n + 1 => by simpa [repV] using repV_nil n

/-- what an operation leaves -/
def OpOkN (P : Program) (w0 : World) (A : Anch) (ν : Nm) (s' : St) (v : AV) (r : Result Next) : Prop := ∃ ν' V w', Nm.le ν ν' ∧ WRel P w0 A ν' s' w' ∧ den ν' v = some V ∧ (r = .ok (.value V) w' ∨ (r = .ok .skip w' ∧ V = undef))
theorem OpOk.n {s' : St} {v : AV} {x : Sem Value} (h : OpOk P w0 A ν s' v (x.run P w)) : OpOkN P w0 A ν s' v ((Sem.bind x fun v => Sem.pure (Next.value v)).run P w) := by
  obtain ⟨ν', V, w', h1, h2, h3, h4⟩ := h
  exact ⟨ν', V, w', h1, h2, h3, .inl (run_val h4)⟩
theorem OpOk.u {s' : St} {x : Sem Unit} (h : ∃ w', WRel P w0 A ν s' w' ∧ x.run P w = .ok () w') : OpOkN P w0 A ν s' undA ((Sem.bind x fun _ => Sem.pure Next.skip).run P w) := by
  obtain ⟨w', h1, h2⟩ := h
  exact ⟨ν, undef, w', Nm.le.refl _, h1, rfl, .inr ⟨run_unit h2, rfl⟩⟩
theorem run_zero_all {t : TypeId} {z : AV} (h : zeroA P t = some z) : ∃ Z, den ν z = some Z ∧ ∀ w, (zeroValue t).run P w = .ok Z w := by
  obtain ⟨i, Z, hi, hz, hd⟩ := zeroA_spec (ν := ν) h
  refine ⟨Z, hd, fun w => ?_⟩
  show (Sem.bind (typeInfo t) _).run P w = _
  rw [run_bind, run_info hi]
  simp only [hz]
  rfl
/-- what is made -/
def Makes (P : Program) (ν : Nm) (obj : AObj) (f : Nat → AV) (x : World → Result Next) : Prop := ∃ (OBJ : Obj) (Vf : Nat → Value), (∀ ν', Nm.le ν ν' → ORel P ν' obj OBJ) ∧ (∀ (ν' : Nm) k g, ν' k = some g → den ν' (f k) = some (Vf g)) ∧ ∀ w, x w = .ok (.value (Vf w.heap.size)) (w.alloc OBJ)
theorem makes_cells {l : List AV} {L : List Value} {t : TypeId} {f : Nat → AV} {Vf : Nat → Value} (hl : denL ν l = some L) (hv : ∀ (ν' : Nm) k g, ν' k = some g → den ν' (f k) = some (Vf g)) {x : Sem Value} (hx : ∀ w, x.run P w = .ok (Vf w.heap.size) (w.alloc (.cells L.toArray t))) :
    Makes P ν (.cells l t none) f fun w => (Sem.bind x fun v => Sem.pure (Next.value v)).run P w :=
  ⟨.cells L.toArray t, Vf, fun ν' hν => ⟨rfl, noFz0 _, L, [], denL_mono hν _ _ hl, by simp, rfl⟩, hv, fun w => run_val (hx w)⟩
theorem mk_one {l : List AV} {t : TypeId} {f : Nat → AV} {r : AObj × (Nat → AV)} (h : (match l.all oneA with | true => some (AObj.cells l t none, f) | false => none) = some r) : l.all oneA = true ∧ r = (.cells l t none, f) := by
  split at h
  · rename_i h1
    injection h with h
    exact ⟨h1, h.symm⟩
  · cases h

theorem allocA_rel {o : Oper} (hF : FRel ν T N a.tmps) {obj : AObj} {f : Nat → AV} (hm : allocA P T o.op = some (obj, f)) : Makes P ν obj f fun w => (execOp a.eval o).run P w := by
  have as : ∀ {x : Sem Value}, (Makes P ν obj f fun w => (Sem.bind x fun v => Sem.pure (Next.value v)).run P w) → (execOp a.eval o = Sem.bind x fun v => Sem.pure (Next.value v)) → Makes P ν obj f fun w => (execOp a.eval o).run P w := fun hx e => by rw [e]; exact hx
  cases hop : o.op <;> rw [hop] at hm <;> simp only [allocA] at hm <;> (try (cases hm; done))
  case alloc t =>
    split at hm
    · rename_i z hz
      obtain ⟨Z, hZ, rz⟩ := run_zero_all (P := P) (ν := ν) hz
      obtain ⟨h1, e⟩ := mk_one hm
      simp only [Prod.mk.injEq] at e
      obtain ⟨rfl, rfl⟩ := e
      refine as (x := Instr.alloc t true (.tuple #[])) (makes_cells (cells_den hZ h1) (Vf := fun g => .pointer (some ⟨g, 0, none⟩)) (fun ν' k g hν => by simp only [den, hν]) fun w => ?_) (by unfold execOp; rw [hop]; rfl)
      unfold Instr.alloc
      simp only [bind]
      rw [run_bind, rz]
      simp only []
      rfl
    · cases hm
  case box t x =>
    split at hm
    · rename_i u hu
      obtain ⟨h1, e⟩ := mk_one hm
      simp only [Prod.mk.injEq] at e
      obtain ⟨rfl, rfl⟩ := e
      exact as (x := Instr.box t (a.eval x)) (makes_cells (cells_den (hF.evA hu) h1) (Vf := fun g => .pointer (some ⟨g, 0, none⟩)) (fun ν' k g hν => by simp only [den, hν]) fun w => rfl) (by unfold execOp; rw [hop]; rfl)
    · cases hm
  case buildSlice t len parts =>
    split at hm
    · rename_i e ps hu hps
      split at hm
      · rename_i z n hz hn
        split at hm
        · rename_i hc
          simp only [Bool.and_eq_true] at hc
          obtain ⟨⟨c1, c2⟩, c3⟩ := hc
          have c1 := Nat.le_of_ble_eq_true c1
          have c2 := Nat.eq_of_beq_eq_true c2
          split at hm
          · rename_i l hl
            obtain ⟨Z, hZ, rz⟩ := run_zero_all (P := P) (ν := ν) hz
            obtain ⟨z1, z2⟩ := zero_cells hZ c3 c2
            have hcells : ((Array.range (len * n)).map fun i => (if len * n = 0 then #[] else Z.cells)[i % (if len * n = 0 then (#[] : Array Value) else Z.cells).size]!).toList = repV Z.cells.toList len := by
              by_cases h0 : len * n = 0
              · rw [if_pos h0]
                have : repV Z.cells.toList len = [] := by
                  rcases Nat.mul_eq_zero.1 h0 with h1 | h1
                  · rw [h1]; rfl
                  · have : Z.cells.toList = [] := List.eq_nil_of_length_eq_zero (by simpa [h1] using z2)
                    rw [this]
                    exact repV_nil _
                rw [this, h0]
                simp
              · rw [if_neg h0]
                have := zeros_eq Z.cells len
                rw [z2] at this
                rw [z2]
                exact this
            have hp := parts_den hF hps
            obtain ⟨arr', f1, f2⟩ := run_fill (ν := ν) (pl := fun i => some (i * n, n)) (arr := (Array.range (len * n)).map fun i => (if len * n = 0 then #[] else Z.cells)[i % (if len * n = 0 then (#[] : Array Value) else Z.cells).size]!) hp (by rw [hcells]; exact repL_den z1 len) hl
            obtain ⟨_, eq⟩ := mk_one hm
            simp only [Prod.mk.injEq] at eq
            obtain ⟨rfl, rfl⟩ := eq
            refine as (x := Instr.buildSlice t len (parts.map fun (i, x) => (i, a.eval x))) (makes_cells f2 (Vf := fun g => .slice (some ⟨g, 0, none⟩) len len) (fun ν' k g hν => by simp only [den, hν, capOf]; rw [if_pos (Nat.le_refl _)]) fun w => ?_) (by unfold execOp; rw [hop]; rfl)
            unfold Instr.buildSlice
            simp only [bind]
            rw [run_bind, run_underlying hu]
            simp only []
            rw [run_bind, run_sizeT hn]
            simp only []
            have hbig : ¬ (len * n > 2 ^ 24) := by unfold most at c1; omega
            rw [if_neg hbig]
            have e1 : (parts.map fun p : Nat × Operand => (p.1, a.eval p.2)).toList = parts.toList.map fun p => (p.1, a.eval p.2) := by simp
            rw [← e1] at f1
            by_cases h0 : len * n = 0
            · rw [if_pos h0, run_bind]
              rw [if_pos h0] at f1
              show (match Instr.fill (fun i => some (i * n, n)) ((Array.range (len * n)).map fun i => (#[] : Array Value)[i % (#[] : Array Value).size]!) (parts.map fun p : Nat × Operand => (p.1, a.eval p.2)).toList with | some cells => _ | _ => _ : Sem Value).run P w = _
              rw [f1]
              rfl
            · rw [if_neg h0, run_bind, rz]
              rw [if_neg h0] at f1
              simp only []
              rw [run_bind]
              show (match Instr.fill (fun i => some (i * n, n)) ((Array.range (len * n)).map fun i => Z.cells[i % Z.cells.size]!) (parts.map fun p : Nat × Operand => (p.1, a.eval p.2)).toList with | some cells => _ | _ => _ : Sem Value).run P w = _
              rw [f1]
              rfl
          · cases hm
        · cases hm
      · cases hm
    · cases hm
  case makeMap t r =>
    have mk_ : ∀ {x : Sem Value}, obj = .map [] 0 → (f = fun i => .map i) → (∀ w, x.run P w = .ok (.map (some w.heap.size)) (w.alloc (.map #[] 0))) → Makes P ν obj f fun w => (Sem.bind x fun v => Sem.pure (Next.value v)).run P w := fun e1 e2 hx => by
      subst e1 e2
      exact ⟨.map #[] 0, fun g => .map (some g), fun ν' _ => ⟨rfl, trivial⟩, fun ν' k g hν => by simp only [den, hν], fun w => run_val (hx w)⟩
    split at hm
    · simp only [Option.some.injEq, Prod.mk.injEq] at hm
      exact as (x := Instr.makeMap t none) (mk_ hm.1.symm hm.2.symm fun w => rfl) (by unfold execOp; rw [hop]; rfl)
    · rename_i x
      split at hm
      · rename_i kt e k n hu hp
        simp only [Option.some.injEq, Prod.mk.injEq] at hm
        have hd := hF.evA hp
        simp only [den, Option.some.injEq] at hd
        refine as (x := Instr.makeMap t (some (a.eval x))) (mk_ hm.1.symm hm.2.symm fun w => ?_) (by unfold execOp; rw [hop]; rfl)
        unfold Instr.makeMap
        simp only [bind, ← hd]
        rw [run_bind, run_underlying hu]
        rfl
      · cases hm
  case makeSlice t l c =>
    split at hm
    · rename_i e nl nc hu hl hcp
      obtain ⟨u1, hu1, hn1⟩ := bind_natOf hl
      obtain ⟨k1, rfl⟩ := natOf_spec hn1
      obtain ⟨u2, hu2, hn2⟩ := bind_natOf hcp
      obtain ⟨k2, rfl⟩ := natOf_spec hn2
      have d1 := hF.evA hu1
      have d2 := hF.evA hu2
      simp only [den, Option.some.injEq] at d1 d2
      split at hm
      · rename_i z inf hz hi
        split at hm
        · rename_i hc
          simp only [Bool.and_eq_true] at hc
          obtain ⟨⟨⟨⟨c1, c2⟩, c3⟩, c4⟩, c5⟩ := hc
          have c1 := Nat.le_of_ble_eq_true c1
          have c2 := Nat.le_of_ble_eq_true c2
          have c3 := Nat.le_of_ble_eq_true c3
          have c4 := Nat.eq_of_beq_eq_true c4
          obtain ⟨Z, hZ, rz⟩ := run_zero_all (P := P) (ν := ν) hz
          obtain ⟨z1, z2⟩ := zero_cells hZ c5 c4
          have hsz : sizeT P e = some inf.size := by unfold sizeT; rw [hi]
          have w1 := wrap_small (Nat.le_trans c1 c2)
          have w2 := wrap_small c2
          have hcells : ∀ z0 : Array Value, z0 = (if nc * inf.size = 0 then #[] else Z.cells) → ((Array.range (nc * inf.size)).map fun i => z0[i % z0.size]!).toList = repV Z.cells.toList nc := fun z0 hz0 => by
            subst hz0
            by_cases h0 : nc * inf.size = 0
            · rw [if_pos h0]
              have : repV Z.cells.toList nc = [] := by
                rcases Nat.mul_eq_zero.1 h0 with h1 | h1
                · rw [h1]; rfl
                · have : Z.cells.toList = [] := List.eq_nil_of_length_eq_zero (by simpa [h1] using z2)
                  rw [this]
                  exact repV_nil _
              rw [this, h0]
              simp
            · rw [if_neg h0]
              have := zeros_eq Z.cells nc
              rw [z2] at this
              rw [z2]
              exact this
          obtain ⟨_, eq⟩ := mk_one hm
          simp only [Prod.mk.injEq] at eq
          obtain ⟨rfl, rfl⟩ := eq
          refine as (x := Instr.makeSlice t (a.eval l) (a.eval c)) (makes_cells (repL_den z1 nc) (Vf := fun g => .slice (some ⟨g, 0, none⟩) nl nc) (fun ν' k g hν => by simp only [den, hν, capOf]; rw [if_pos c1]) fun w => ?_) (by unfold execOp; rw [hop]; rfl)
          rw [← d1, ← d2]
          unfold Instr.makeSlice
          simp only [bind, asInt, asIntOf, pure, Sem.bind]
          rw [run_bind, run_underlying hu]
          simp only [Sem.bind]
          rw [run_bind, run_info hi]
          simp only [w1, w2]
          have hbytes : nc * inf.bytes ≤ most * most := Nat.mul_le_mul c2 c3
          have hbytes1 : inf.bytes * nl ≤ most * most := by rw [Nat.mul_comm]; exact Nat.mul_le_mul (Nat.le_trans c1 c2) c3
          unfold most at hbytes hbytes1
          have hcond : (decide ((nc : Int) < 0) || decide ((inf.bytes : Int) * (nc : Int) > 2 ^ 48) || decide ((nl : Int) < 0) || decide ((nl : Int) > (nc : Int))) = false := by
            have hb2 : (inf.bytes : Int) * (nc : Int) ≤ 1000000000000 := by
              have h1 : nc * inf.bytes ≤ 1000000000000 := hbytes
              have h2 := Int.ofNat_le.2 h1
              rw [Int.natCast_mul, Int.mul_comm] at h2
              exact h2
            have p48 : (2 : Int) ^ 48 = 281474976710656 := by rfl
            rw [decide_eq_false (by omega : ¬ (nc : Int) < 0), decide_eq_false (by rw [p48]; omega : ¬ (inf.bytes : Int) * (nc : Int) > 2 ^ 48), decide_eq_false (by omega : ¬ (nl : Int) < 0), decide_eq_false (by omega : ¬ (nl : Int) > (nc : Int))]
            rfl
          rw [hcond]
          simp only [Bool.false_eq_true, if_false, Int.toNat_natCast]
          have hroom : (askRoom (nc * inf.bytes)).run P w = .ok () w := by
            unfold askRoom
            split <;> rfl
          rw [run_bind, hroom]
          simp only []
          rw [run_bind, run_sizeT hsz]
          simp only []
          by_cases h0 : nc * inf.size = 0
          · rw [if_pos h0]
            have hc0 := hcells #[] (by rw [if_pos h0])
            show Result.ok (Value.slice (some ⟨w.heap.size, 0, none⟩) nl nc) (w.alloc (.cells _ e)) = _
            rw [← hc0]
          · rw [if_neg h0, run_bind, rz]
            simp only []
            have hc0 := hcells Z.cells (by rw [if_neg h0])
            show Result.ok (Value.slice (some ⟨w.heap.size, 0, none⟩) nl nc) (w.alloc (.cells _ e)) = _
            rw [← hc0]
        · cases hm
      · cases hm
    · cases hm

theorem clearS_rel (h : WRel P w0 A ν s w) {t ty : TypeId} {x : AV} {X : Value} {s' : St} (hc : clearS P s t x = some s') (hx : den ν x = some X) : OpOk P w0 A ν s' undA ((Builtin.clear_ #[t] ty #[X]).run P w) := by
  unfold clearS at hc
  split at hc
  · cases hc
  · rename_i d ht
    split at hc
    · injection hc with hc
      subst hc
      simp only [den, Option.some.injEq] at hx
      subst hx
      refine ⟨ν, .tuple #[], w, Nm.le.refl _, h, rfl, ?_⟩
      unfold Builtin.clear_
      simp only [List.getElem?_toArray, List.getElem?_cons_zero, bind]
      rw [run_bind, run_underlying ht]
      rfl
    · injection hc with hc
      subst hc
      simp only [den, Option.some.injEq] at hx
      subst hx
      refine ⟨ν, .tuple #[], w, Nm.le.refl _, h, rfl, ?_⟩
      unfold Builtin.clear_
      simp only [List.getElem?_toArray, List.getElem?_cons_zero, bind]
      rw [run_bind, run_underlying ht]
      rfl
    · rename_i i off len c
      obtain ⟨g, n, hg, hcap, hlen, rfl⟩ := slice_den hx
      split at hc
      · rename_i hl
        injection hc with hc
        subst hc
        have hl := Nat.eq_of_beq_eq_true hl
        subst hl
        refine ⟨ν, .tuple #[], w, Nm.le.refl _, h, rfl, ?_⟩
        unfold Builtin.clear_
        simp only [List.getElem?_toArray, List.getElem?_cons_zero, bind]
        rw [run_bind, run_underlying ht]
        rfl
      · rename_i hl
        split at hc
        · rename_i e
          split at hc
          · rename_i z hz
            split at hc
            · rename_i h1
              obtain ⟨Z, hZ, hrun⟩ := run_zero_all (ν := ν) hz
              obtain ⟨k1, _⟩ := zero_cells hZ h1 rfl
              obtain ⟨m1, m2, _⟩ := putCells_rel h hc hg (repL_den k1 len)
              refine ⟨ν, .tuple #[], _, Nm.le.refl _, m1, rfl, ?_⟩
              cases len with
              | zero => simp [Nat.beq_refl] at hl
              | succ len =>
                unfold Builtin.clear_
                simp only [List.getElem?_toArray, List.getElem?_cons_zero, bind]
                rw [run_bind, run_underlying ht]
                simp only []
                rw [run_bind, hrun w]
                simp only []
                rw [show (Builtin.zeroCells Z.cells (len + 1)).toList = repV Z.cells.toList (len + 1) from zeros_eq _ _, run_bind, m2]
                rfl
            · cases hc
          · cases hc
        · cases hc
    · rename_i i
      obtain ⟨g, hg, rfl⟩ := map_den hx
      split at hc
      · rename_i es c hi
        injection hc with hc
        subst hc
        obtain ⟨arr, ho, harr⟩ := h.map_ hi hg
        refine ⟨ν, .tuple #[], w.putObj g (.map #[] c), Nm.le.refl _, h.write hi hg (show ORel P ν (.map [] c) (.map #[] c) from ⟨rfl, trivial⟩) (Upd.obj _ (h.lt hi hg)) (fun _ hx => List.mem_cons_of_mem _ hx) (fun _ _ => List.mem_cons_self ..), rfl, ?_⟩
        unfold Builtin.clear_
        simp only [List.getElem?_toArray, List.getElem?_cons_zero, bind]
        rw [run_bind, run_underlying ht]
        simp only []
        rw [run_bind, run_getObj ho (by simp)]
        simp only []
        have hs : (setObj g (.map #[] c)).run P w = .ok () (w.putObj g (.map #[] c)) := by simp [setObj, Sem.run, ho, World.putObj]
        rw [run_bind, hs]
        rfl
      · cases hc
    · cases hc

theorem freeze_alloc (v : World) (c : Array Value) (e n : Nat) : (v.alloc (.cells c e)).freeze ⟨v.heap.size, n, none⟩ 1 = v.alloc (.cells c e (n, n + 1)) := by
  unfold World.freeze
  rw [if_neg (by decide)]
  unfold World.alloc
  congr 1
  refine Array.ext (by simp) fun i h1 h2 => ?_
  simp only [Array.size_modify, Array.size_push] at h1
  rw [Array.getElem_modify]
  by_cases hi : i = v.heap.size
  · subst hi
    simp
  · have hlt : i < v.heap.size := by omega
    rw [if_neg (fun e => hi e.symm), Array.getElem_push_lt hlt, Array.getElem_push_lt hlt]
theorem bytesWorld_eq (w : World) (e : TypeId) (b : ByteArray) : Lib.bytesWorld w e b = w.drew.alloc (.cells (Lib.bytesCells w e b) e ((Lib.bytesCells w e b).size, (Lib.bytesCells w e b).size + 1)) := freeze_alloc w.drew _ _ _
theorem bytesA_rel (h : WRel P w0 A ν s w) {src dst : TypeId} {x v : AV} {X : Value} {s' : St} (hb : bytesA P s src dst x = some (v, s')) (hx : den ν x = some X) : OpOk P w0 A ν s' v ((convert src dst X).run P w) := by
  unfold bytesA at hb
  split at hb
  · rename_i e b hs hd
    split at hb
    · rename_i inf he hi
      split at hb
      · rename_i h1
        have h1 := Nat.eq_of_beq_eq_true h1
        simp only [Option.some.injEq, Prod.mk.injEq] at hb
        obtain ⟨rfl, rfl⟩ := hb
        simp only [den, Option.some.injEq] at hx
        subst hx
        have hr := Lib.run_convert_string_bytes (P := P) w src dst e ⟨b.toArray⟩ hs hd he
        rw [bytesWorld_eq] at hr
        have hsz : (ByteArray.mk b.toArray).size = b.length := by simp [ByteArray.size]
        rw [hsz] at hr
        have hge := grownCap_ge w b.length 0 e
        have hk1 := h.top (s.n + 1) (by omega)
        have hd' := (h.drew).name (k := s.n + 1) (n' := s.n + 2) hk1 (by omega) (by omega) (grownCap w b.length 0 e)
        have hk0 : (ν.set (s.n + 1) (grownCap w b.length 0 e)) s.n = none := by
          simp only [Nm.set]
          rw [if_neg (by omega)]
          exact h.top _ (Nat.le_refl _)
        have hle1 := Nm.le_set hk1 (grownCap w b.length 0 e)
        have hle2 := Nm.le_set hk0 w.heap.size
        have hcap : (Nm.set (ν.set (s.n + 1) (grownCap w b.length 0 e)) s.n w.heap.size) (s.n + 1) = some (grownCap w b.length 0 e) := hle2 _ _ (Nm.set_same _ _ _)
        have hbs : ∀ b : List UInt8, denL ν (b.map fun c => AV.int .u8 c.toNat) = some (b.map fun c => Value.int .u8 c.toNat) := fun b => by
          induction b with
          | nil => rfl
          | cons c b ih => exact denL_mk rfl ih
        have hcells : Lib.bytesCells w e ⟨b.toArray⟩ = (b.map fun c => Value.int .u8 c.toNat).toArray ++ Array.replicate (grownCap w b.length 0 e - b.length) (.int .u8 0) := by
          simp [Lib.bytesCells, hsz]
        have hcs : (Lib.bytesCells w e ⟨b.toArray⟩).size = grownCap w b.length 0 e := by
          rw [hcells]
          simp
          omega
        have hw := hd'.alloc (k := s.n) (n' := s.n + 2) (o := .cells (b.map fun c => .int .u8 c.toNat) e (some (s.n + 1))) (obj := .cells (Lib.bytesCells w e ⟨b.toArray⟩) e ((Lib.bytesCells w e ⟨b.toArray⟩).size, (Lib.bytesCells w e ⟨b.toArray⟩).size + 1)) hk0 (by simp) (by omega)
          ⟨rfl, fun i hi hh => (by simp only at hh; omega), b.map fun c => Value.int .u8 c.toNat, List.replicate (grownCap w b.length 0 e - b.length) (.int .u8 0), denL_mono hle2 _ _ (denL_mono hle1 _ _ (hbs b)), by rw [hcells]; simp, grownCap w b.length 0 e, inf, hcap, hi, by rw [hcs, h1, Nat.mul_one]⟩
        refine ⟨_, .slice (some ⟨w.heap.size, 0, none⟩) b.length (grownCap w b.length 0 e), _, hle1.trans hle2, hw, ?_, hr⟩
        simp only [den, capOf, hcap, Nm.set_same]
        rw [if_pos (Nat.zero_le _)]
        simp only [Nat.sub_zero]
        rw [if_pos hge]
      · cases hb
    · cases hb
  · cases hb

/-! ### pointers seen as others; texts that share bytes -/
theorem run_shape {g t : Nat} {arr : Array Value} {fz : Nat × Nat} (hg : w.heap[g]? = some (.cells arr t fz)) : (shape g).run P w = .ok (some (t, arr.size)) w := by
  show Result.ok (w.shape? g) w = _
  unfold World.shape?
  rw [hg]
theorem run_viewAt {g t : Nat} {arr : Array Value} {fz : Nat × Nat} (hg : w.heap[g]? = some (.cells arr t fz)) : (viewAt g).run P w = .ok none w := by
  unfold viewAt
  simp only [bind]
  rw [run_bind, run_shape hg]
  rfl
theorem run_cellsIn {g t : Nat} {arr : Array Value} {fz : Nat × Nat} (hg : w.heap[g]? = some (.cells arr t fz)) : (cellsIn g).run P w = .ok (some arr.size) w := by
  unfold cellsIn
  simp only [bind]
  rw [run_bind, run_shape hg]
  rfl
theorem run_seenAt {g off t : Nat} {arr : Array Value} {fz : Nat × Nat} (hg : w.heap[g]? = some (.cells arr t fz)) : (Conv.seenAt ⟨g, off, none⟩).run P w = .ok ⟨g, off, none⟩ w := by
  unfold Conv.seenAt
  simp only [bind]
  rw [run_bind, run_viewAt hg]
  rfl
theorem run_variablesAt {g off u n t : Nat} {arr : Array Value} {fz : Nat × Nat} (hg : w.heap[g]? = some (.cells arr t fz)) : (variablesAt ⟨g, off, none⟩ u n).run P w = .ok (liesAt P P.depth t (arr.size / P.cellsOf t) off u n) w := by
  unfold variablesAt
  simp only [bind, program, Sem.bind, Sem.run]
  rw [run_bind, run_shape hg]
  rfl
theorem unsafeA_rel (h : WRel P w0 A ν s w) {src dst : TypeId} {x v : AV} {X : Value} (hu : unsafeA P s src dst x = some v) (hx : den ν x = some X) : ∃ V, den ν v = some V ∧ (convert src dst X).run P w = .ok V w := by
  have two : ∀ {d1 d2 : TypeDesc} {f : TypeDesc → TypeDesc → Sem Value} {r : Result Value}, P.underlying src = some d1 → P.underlying dst = some d2 → (f d1 d2).run P w = r → (Sem.bind (underlying src) fun a => Sem.bind (underlying dst) fun b => f a b).run P w = r := fun h1 h2 h3 => by
    rw [run_bind, run_underlying h1]
    simp only []
    rw [run_bind, run_underlying h2]
    exact h3
  unfold unsafeA at hu
  split at hu
  · rename_i e hs hd
    injection hu with hu
    subst hu
    simp only [den, Option.some.injEq] at hx
    subst hx
    refine ⟨_, rfl, two hs hd ?_⟩
    exact two hs hd rfl
  · rename_i t i off hs hd
    split at hu
    · rename_i sz l tc c hsz hi
      split at hu
      · rename_i hlt
        have hlt := Nat.le_of_ble_eq_true hlt
        injection hu with hu
        subst hu
        obtain ⟨g, hg, rfl⟩ := ptr_den hx
        obtain ⟨L, R, hL, ⟨fz, hb, _⟩, _⟩ := h.blk hi hg
        have hlen := denL_len hL
        obtain ⟨inf, hinf, hsz'⟩ := sizeT_spec hsz
        refine ⟨_, hx, two hs hd ?_⟩
        refine two hs hd ?_
        simp only [bind]
        rw [run_bind, run_seenAt hb]
        simp only []
        rw [run_bind, run_cellsIn hb]
        simp only []
        rw [run_bind, run_sizeOf hinf]
        simp only []
        rw [if_neg ?_]
        · rfl
        · have : ¬ (L ++ R).toArray.size ≤ off := by simp; omega
          simp only [Bool.or_eq_true, Bool.and_eq_true, decide_eq_true_eq, ge_iff_le]
          rintro (h1 | ⟨h1, _⟩)
          · omega
          · exact this h1
      · cases hu
    · cases hu
  · rename_i e hs hd
    injection hu with hu
    subst hu
    simp only [den, Option.some.injEq] at hx
    subst hx
    refine ⟨_, rfl, two hs hd ?_⟩
    exact two hs hd rfl
  · rename_i u i off hs hd
    split at hu
    · rename_i sz l e hsz hi
      split at hu
      · rename_i hl
        injection hu with hu
        subst hu
        obtain ⟨g, hg, rfl⟩ := ptr_den hx
        obtain ⟨L, R, hL, ⟨fz, hb, _⟩, hR⟩ := h.blk hi hg
        have hlen := denL_len hL
        simp only at hR
        subst hR
        obtain ⟨inf, hinf, hsz'⟩ := sizeT_spec hsz
        refine ⟨_, hx, two hs hd ?_⟩
        refine two hs hd ?_
        simp only [bind]
        rw [run_bind, run_seenAt hb]
        simp only []
        rw [run_bind, run_sizeOf hinf]
        simp only []
        rw [run_bind, run_variablesAt hb]
        simp only []
        have : liesAt P P.depth e ((L ++ []).toArray.size / P.cellsOf e) off u 1 = true := by rw [← hl]; simp [hlen]
        rw [this, if_pos (by simp)]
        rfl
      · cases hu
    · cases hu
  · cases hu
theorem capA_rel {t ty : TypeId} {x v : AV} {X : Value} (hc : capA P t x = some v) (hx : den ν x = some X) (rest : List TypeId) : ∃ V, den ν v = some V ∧ (Builtin.cap_ (t :: rest).toArray ty #[X]).run P w = .ok V w := by
  unfold capA at hc
  split at hc
  · rename_i e ht
    injection hc with hc
    subst hc
    simp only [den, Option.some.injEq] at hx
    subst hx
    refine ⟨_, rfl, ?_⟩
    unfold Builtin.cap_
    simp only [bind]
    show (Sem.bind (underlying t) _).run P w = _
    rw [run_bind, run_underlying ht]
    rfl
  · rename_i e i off n c ht
    injection hc with hc
    subst hc
    obtain ⟨g, C, hg, hC, hle, rfl⟩ := slice_den hx
    simp only [capOf, Option.some.injEq] at hC
    subst hC
    refine ⟨_, rfl, ?_⟩
    unfold Builtin.cap_
    simp only [bind]
    show (Sem.bind (underlying t) _).run P w = _
    rw [run_bind, run_underlying ht]
    rfl
  · cases hc
theorem sliceDataA_rel {ty : TypeId} {x v : AV} {X : Value} (hc : sliceDataA x = some v) (hx : den ν x = some X) (ts : Array TypeId) : ∃ V, den ν v = some V ∧ (Builtin.unsafeSliceData_ ts ty #[X]).run P w = .ok V w := by
  unfold sliceDataA at hc
  split at hc
  · injection hc with hc
    subst hc
    simp only [den, Option.some.injEq] at hx
    subst hx
    exact ⟨_, rfl, rfl⟩
  · rename_i i off n c
    injection hc with hc
    subst hc
    obtain ⟨g, C, hg, hC, hle, rfl⟩ := slice_den hx
    refine ⟨.pointer (some ⟨g, off, none⟩), by simp only [den, hg], ?_⟩
    show Sem.run P (ite (C ≠ 0) (Sem.pure (Value.pointer (some ⟨g, off, none⟩))) _) w = _
    rw [if_pos (by omega)]
    rfl
  · cases hc
theorem run_loadBytes {g : Nat} : ∀ (cs : List AV) (bs : List UInt8) (CS : List Value) (off : Nat) (acc : ByteArray), bytesOf cs = some bs → denL ν cs = some CS → (∀ j u, CS[j]? = some u → w.cell? ⟨g, off + j, none⟩ = some u) →
    (loadBytes ⟨g, off, none⟩ acc bs.length).run P w = .ok ⟨(acc.data.toList ++ bs).toArray⟩ w
  | [], bs, CS, off, acc, h, _, _ => by
    simp only [bytesOf, mapO, Option.some.injEq] at h
    subst h
    simp [loadBytes, pure, Sem.run]
  | c :: cs, bs, CS, off, acc, h, hd, hc => by
    unfold bytesOf at h
    simp only [mapO] at h
    split at h
    · cases h
    · rename_i y hy
      split at h
      · cases h
      · rename_i r hr
        injection h with h
        subst h
        obtain ⟨V, R, v1, v2, rfl⟩ := denL_cons hd
        split at hy
        · rename_i n
          injection hy with hy
          subst hy
          simp only [den, Option.some.injEq] at v1
          subst v1
          have h0 := hc 0 _ rfl
          simp only [Nat.add_zero] at h0
          show (loadBytes ⟨g, off, none⟩ acc (r.length + 1)).run P w = _
          unfold loadBytes
          simp only [bind]
          unfold load
          simp only [Sem.bind]
          rw [run_load_one h0, addr_add]
          have := run_loadBytes cs r R (off + 1) (acc.push (UInt8.ofNat n)) hr v2 fun j u hj => by
            rw [show off + 1 + j = off + (j + 1) by omega]
            exact hc (j + 1) u (by simpa using hj)
          show (loadBytes ⟨g, off + 1, none⟩ (acc.push (UInt8.ofNat n)) r.length).run P w = _
          rw [this]
          simp [ByteArray.push]
        · cases hy
theorem lies_row {e b count off n : Nat} (hd : 1 ≤ P.depth) (hs : P.cellsOf e = 1) (hf : sameLayout P P.depth e b = true) (hc : off + n ≤ count) : liesAt P P.depth e count off b n = true := by
  cases hdp : P.depth with
  | zero => omega
  | succ d =>
    unfold liesAt
    rw [Bool.or_eq_true]
    left
    unfold rowAt
    simp only [hdp, hs]
    rw [if_neg (by simp)]
    rw [hdp] at hf
    simp [hf, hc, Nat.mod_one]
theorem bytesOf_len {cs : List AV} {bs : List UInt8} (h : bytesOf cs = some bs) : bs.length = cs.length := by
  induction cs generalizing bs with
  | nil => simp only [bytesOf, mapO, Option.some.injEq] at h; subst h; rfl
  | cons c cs ih =>
    unfold bytesOf at h
    simp only [mapO] at h
    split at h
    · cases h
    · split at h
      · cases h
      · rename_i r hr
        injection h with h
        subst h
        simp [ih hr]
theorem unsafeStrA_rel (h : WRel P w0 A ν s w) {pt ty : TypeId} {x y v : AV} {X Y : Value} {s' : St} (hc : unsafeStrA P s pt x y = some (v, s')) (hx : den ν x = some X) (hy : den ν y = some Y) (rest : List TypeId) : OpOk P w0 A ν s' v ((Builtin.unsafeString_ (pt :: rest).toArray ty #[X, Y]).run P w) := by
  have zero : ∀ {p : Option Addr} {k : IntKind}, X = .pointer p → Y = .int k 0 → (Builtin.unsafeString_ (pt :: rest).toArray ty #[X, Y]).run P w = .ok (.string ⟨#[]⟩) w := fun {p k} e1 e2 => by
    subst e1 e2
    unfold Builtin.unsafeString_
    cases p <;> rfl
  have nat : ∀ {n : Nat}, natOf y = some n → ∃ k, Y = .int k (.ofNat n) := fun {n} hn => by
    obtain ⟨k, rfl⟩ := natOf_spec hn
    simp only [den, Option.some.injEq] at hy
    exact ⟨k, hy.symm⟩
  unfold unsafeStrA at hc
  split at hc
  · rename_i hn
    simp only [Option.some.injEq, Prod.mk.injEq] at hc
    obtain ⟨rfl, rfl⟩ := hc
    obtain ⟨k, hk⟩ := nat hn
    simp only [den, Option.some.injEq] at hx
    exact ⟨ν, _, w, Nm.le.refl _, h, rfl, zero hx.symm hk⟩
  · rename_i i off hn
    simp only [Option.some.injEq, Prod.mk.injEq] at hc
    obtain ⟨rfl, rfl⟩ := hc
    obtain ⟨k, hk⟩ := nat hn
    obtain ⟨g, hg, e⟩ := ptr_den hx
    exact ⟨ν, _, w, Nm.le.refl _, h, rfl, zero e hk⟩
  · rename_i i off n hn
    split at hc
    · rename_i b l e c hpt hi
      split at hc
      · rename_i inf cs hinf hsl hcut
        split at hc
        · rename_i bs hcond hbs
          simp only [Bool.and_eq_true] at hcond
          obtain ⟨⟨c1, c2⟩, c3⟩ := hcond
          have c1 := Nat.eq_of_beq_eq_true c1
          have c2 := Nat.le_of_ble_eq_true c2
          have c3 := Nat.le_of_ble_eq_true c3
          simp only [Option.some.injEq, Prod.mk.injEq] at hc
          obtain ⟨rfl, rfl⟩ := hc
          obtain ⟨k, rfl⟩ := nat hn
          obtain ⟨g, hg, rfl⟩ := ptr_den hx
          obtain ⟨L, R, hL, ⟨fz, hb, hnf⟩, _⟩ := h.blk hi hg
          obtain ⟨hd, hlen⟩ := denL_cut hL hcut
          have hbl := bytesOf_len hbs
          obtain ⟨_, hcl⟩ := cutL_spec hcut
          have hn0 : n + 1 ≠ 0 := by omega
          have hfit : off + (n + 1) ≤ L.length := by simp at hlen; omega
          have hs1 : P.cellsOf e = 1 := by simp [Program.cellsOf, hinf, c1]
          have hcells : ∀ j u, ((L.drop off).take (n + 1))[j]? = some u → w.cell? ⟨g, off + j, none⟩ = some u := fun j u hj => by
            have hcell := cell_of_row w g (off + j) (L ++ R).toArray e fz hb
            rw [hcell]
            rw [List.getElem?_take] at hj
            split at hj
            · rw [List.getElem?_drop] at hj
              simp only [List.getElem?_toArray]
              rw [List.getElem?_append_left (List.getElem?_eq_some_iff.1 hj).1]
              exact hj
            · cases hj
          have hld := run_loadBytes (P := P) (w := w) (g := g) cs bs _ off ByteArray.empty hbs hd hcells
          rw [hbl, hcl] at hld
          have hel : (elemOf pt).run P w = .ok b w := by
            unfold elemOf
            simp only [bind]
            rw [run_bind, run_underlying hpt]
            rfl
          have hlies : liesAt P P.depth e ((L ++ R).toArray.size / P.cellsOf e) off b (n + 1) = true := by
            refine lies_row c2 hs1 hsl ?_
            rw [hs1, Nat.div_one]
            simp
            omega
          have hrun : (Builtin.unsafeString_ (pt :: rest).toArray ty #[.pointer (some ⟨g, off, none⟩), .int k (.ofNat (n + 1))]).run P w = .ok (.string ⟨bs.toArray⟩) (w.freeze ⟨g, off, none⟩ (n + 1)) := by
            have h0 : ¬ ((Int.ofNat (n + 1)) < 0) := by simp; omega
            have h1 : ¬ ((Int.ofNat (n + 1)) > IntKind.i64.max) := by
              have : IntKind.i64.max = 9223372036854775807 := by decide
              unfold most at c3
              rw [this]
              simp
              omega
            have h2 : ¬ ((Int.ofNat (n + 1)) = 0) := by simp; omega
            show Sem.run P (ite ((Int.ofNat (n + 1)) > IntKind.i64.max) _ _) w = _
            rw [if_neg h1]
            show (Sem.bind (elemOf pt) _).run P w = _
            rw [run_bind, hel]
            show (Sem.bind (variablesAt ⟨g, off, none⟩ b (n + 1)) _).run P w = _
            rw [run_bind, run_variablesAt hb, hlies]
            show Sem.run P (ite (true = true) _ _) w = _
            rw [if_pos rfl]
            show (Sem.bind (loadBytes ⟨g, off, none⟩ .empty (n + 1)) _).run P w = _
            rw [run_bind, hld]
            rfl
          obtain ⟨g', obj', q1, q2, q3, q4⟩ := h.objs i _ hi
          rw [hg] at q1
          injection q1 with q1
          subst q1
          have hupd : ∃ fz', Upd w g (.cells (L ++ R).toArray e fz') (w.freeze ⟨g, off, none⟩ (n + 1)) := by
            unfold World.freeze
            rw [if_neg hn0]
            obtain ⟨lo, up⟩ := fz
            refine ⟨if lo == up then (off, off + (n + 1)) else (min lo off, max up (off + (n + 1))), rfl, rfl, rfl, by simp, ?_, fun k hk => ?_⟩
            · simp only [Array.getElem?_modify, if_true, hb, Option.map_some]
            · simp only [Array.getElem?_modify]
              rw [if_neg (Ne.symm hk)]
          obtain ⟨fz', hupd⟩ := hupd
          have hno : ∀ j o, (killO s i).h.get j = some o → ν j ≠ some g := fun j o hj e => by
            simp only [killO] at hj
            rw [Tr.get_put] at hj
            split at hj
            · cases hj
            · rename_i hne
              exact hne (h.inj j i o _ hj hi (by rw [e, hg]))
          exact ⟨ν, _, _, Nm.le.refl _, (h.kill i).raw hno q2 (h.own i _ hi g hg) hupd, rfl, hrun⟩
        · cases hc
      · cases hc
    · cases hc
  · cases hc

theorem memA_rel {o : Oper} (h : WRel P w0 A ν s w) (hF : FRel ν T N a.tmps) {v : AV} {s' : St} (hm : memA P s T o.op = some (v, s')) : OpOkN P w0 A ν s' v ((execOp a.eval o).run P w) := by
  have as : ∀ {x : Sem Value}, OpOk P w0 A ν s' v (x.run P w) → (execOp a.eval o = Sem.bind x fun v => Sem.pure (Next.value v)) → OpOkN P w0 A ν s' v ((execOp a.eval o).run P w) := fun hx e => by rw [e]; exact hx.n
  cases hop : o.op <;> rw [hop] at hm <;> simp only [memA] at hm <;> (try (cases hm; done))
  case store t x y =>
    split at hm
    · rename_i i off u hp hu
      rw [Option.map_eq_some_iff] at hm
      obtain ⟨s2, hs, he⟩ := hm
      simp only [Prod.mk.injEq] at he
      obtain ⟨rfl, rfl⟩ := he
      obtain ⟨g, hg, e⟩ := ptr_den (hF.evA hp)
      obtain ⟨w', r1, r2⟩ := storeA_rel (P := P) h hs hg (hF.evA hu)
      have : execOp a.eval o = Sem.bind (Instr.storeAt t (a.eval x) (a.eval y)) fun _ => Sem.pure Next.skip := by unfold execOp; rw [hop]; rfl
      rw [this]
      refine OpOk.u ⟨w', r1, ?_⟩
      rw [e]
      exact r2
    · cases hm
  case convert src dst x =>
    split at hm
    · rename_i u hu
      split at hm
      · rename_i r hr
        injection hm with hm
        subst hm
        exact as (bytesA_rel h hr (hF.evA hu)) (by unfold execOp; rw [hop]; rfl)
      · rw [Option.map_eq_some_iff] at hm
        obtain ⟨v', hv', he⟩ := hm
        simp only [Prod.mk.injEq] at he
        obtain ⟨rfl, rfl⟩ := he
        obtain ⟨V, h1, h2⟩ := unsafeA_rel h hv' (hF.evA hu)
        exact as (x := convert src dst (a.eval x)) ⟨ν, V, w, Nm.le.refl _, h, h1, h2⟩ (by unfold execOp; rw [hop]; rfl)
    · cases hm
  case insert t m k v' =>
    split at hm
    · rename_i p q r hp hq hr
      rw [Option.map_eq_some_iff] at hm
      obtain ⟨s2, hs, he⟩ := hm
      simp only [Prod.mk.injEq] at he
      obtain ⟨rfl, rfl⟩ := he
      have : execOp a.eval o = Sem.bind (Instr.mapUpdate t (a.eval m) (a.eval k) (a.eval v')) fun _ => Sem.pure Next.skip := by unfold execOp; rw [hop]; rfl
      rw [this]
      exact OpOk.u (updateA_rel h hs (hF.evA hp) (hF.evA hq) (hF.evA hr))
    · cases hm
  case mapUpdate t m k v' =>
    split at hm
    · rename_i p q r hp hq hr
      rw [Option.map_eq_some_iff] at hm
      obtain ⟨s2, hs, he⟩ := hm
      simp only [Prod.mk.injEq] at he
      obtain ⟨rfl, rfl⟩ := he
      have : execOp a.eval o = Sem.bind (Instr.mapUpdate t (a.eval m) (a.eval k) (a.eval v')) fun _ => Sem.pure Next.skip := by unfold execOp; rw [hop]; rfl
      rw [this]
      exact OpOk.u (updateA_rel h hs (hF.evA hp) (hF.evA hq) (hF.evA hr))
    · cases hm
  case mapEntry t m k =>
    split at hm
    · rename_i p q hp hq
      exact as (entryA_rel h hm (hF.evA hp) (hF.evA hq)) (by unfold execOp; rw [hop]; rfl)
    · cases hm
  case entryStore t m b v' =>
    split at hm
    · rename_i p q r hp hq hr
      rw [Option.map_eq_some_iff] at hm
      obtain ⟨s2, hs, he⟩ := hm
      simp only [Prod.mk.injEq] at he
      obtain ⟨rfl, rfl⟩ := he
      have : execOp a.eval o = Sem.bind (Instr.entryStore t (a.eval m) (a.eval b) (a.eval v')) fun _ => Sem.pure Next.skip := by unfold execOp; rw [hop]; rfl
      rw [this]
      exact OpOk.u (entryStoreA_rel h hs (hF.evA hp) (hF.evA hq) (hF.evA hr))
    · cases hm
  case range t x =>
    split at hm
    · rename_i u hu
      exact as (rangeA_rel h hm (hF.evA hu)) (by unfold execOp; rw [hop]; rfl)
    · cases hm
  case call c =>
    split at hm
    · rename_i hc
      split at hm
      · rename_i x y t tx hx ht
        split at hm
        · rename_i p q hp hq
          have := appendA_rel (P := P) (ty := o.type) h hm (hF.evA hp) (hF.evA hq)
          rw [run_builtin hop hc, arr_of hx, arr_of ht]
          simp only [List.map_toArray, List.map_cons, List.map_nil]
          exact this.n
        · cases hm
      · cases hm
    · rename_i hc
      split at hm
      · rename_i x y t tx hx ht
        split at hm
        · rename_i p q hp hq
          have := copyA_rel (P := P) (tx := tx) (ty := o.type) h hm (hF.evA hp) (hF.evA hq)
          rw [run_builtin hop hc, arr_of hx, arr_of ht]
          simp only [List.map_toArray, List.map_cons, List.map_nil]
          exact this.n
        · cases hm
      · cases hm
    · rename_i hc
      split at hm
      · rename_i x y t tx hx ht
        split at hm
        · rename_i p q hp hq
          rw [Option.map_eq_some_iff] at hm
          obtain ⟨s2, hs, he⟩ := hm
          simp only [Prod.mk.injEq] at he
          obtain ⟨rfl, rfl⟩ := he
          have := deleteA_rel (P := P) (tx := tx) (ty := o.type) h hs (hF.evA hp) (hF.evA hq)
          rw [run_builtin hop hc, arr_of hx, arr_of ht]
          simp only [List.map_toArray, List.map_cons, List.map_nil]
          exact this.n
        · cases hm
      · cases hm
    · rename_i hc
      split at hm
      · rename_i x t hx ht
        split at hm
        · rename_i p hp
          rw [Option.map_eq_some_iff] at hm
          obtain ⟨s2, hs, he⟩ := hm
          simp only [Prod.mk.injEq] at he
          obtain ⟨rfl, rfl⟩ := he
          have := clearS_rel (P := P) (ty := o.type) h hs (hF.evA hp)
          rw [run_builtin hop hc, arr_of hx, arr_of ht]
          simp only [List.map_toArray, List.map_cons, List.map_nil]
          exact this.n
        · cases hm
      · cases hm
    · rename_i hc
      split at hm
      · rename_i x t hx ht
        split at hm
        · rename_i p hp
          rw [Option.map_eq_some_iff] at hm
          obtain ⟨v', hs, he⟩ := hm
          simp only [Prod.mk.injEq] at he
          obtain ⟨rfl, rfl⟩ := he
          obtain ⟨V, h1, h2⟩ := capA_rel (P := P) (w := w) (ty := o.type) hs (hF.evA hp) []
          rw [run_builtin hop hc, arr_of hx, arr_of ht]
          simp only [List.map_toArray, List.map_cons, List.map_nil]
          exact OpOk.n (x := Builtin.cap_ [t].toArray o.type #[a.eval x]) ⟨ν, V, w, Nm.le.refl _, h, h1, h2⟩
        · cases hm
      · cases hm
    · rename_i hc
      split at hm
      · rename_i x hx
        split at hm
        · rename_i p hp
          rw [Option.map_eq_some_iff] at hm
          obtain ⟨v', hs, he⟩ := hm
          simp only [Prod.mk.injEq] at he
          obtain ⟨rfl, rfl⟩ := he
          obtain ⟨V, h1, h2⟩ := sliceDataA_rel (P := P) (w := w) (ty := o.type) hs (hF.evA hp) c.argTypes
          rw [run_builtin hop hc, arr_of hx]
          simp only [List.map_toArray, List.map_cons, List.map_nil]
          exact OpOk.n (x := Builtin.unsafeSliceData_ c.argTypes o.type #[a.eval x]) ⟨ν, V, w, Nm.le.refl _, h, h1, h2⟩
        · cases hm
      · cases hm
    · rename_i hc
      split at hm
      · rename_i x y t tx hx ht
        split at hm
        · rename_i p q hp hq
          have := unsafeStrA_rel (P := P) (ty := o.type) h hm (hF.evA hp) (hF.evA hq) [tx]
          rw [run_builtin hop hc, arr_of hx, arr_of ht]
          simp only [List.map_toArray, List.map_cons, List.map_nil]
          exact OpOk.n (x := Builtin.unsafeString_ [t, tx].toArray o.type #[a.eval x, a.eval y]) this
        · cases hm
      · cases hm
    · cases hm
end

end Go.Proofs.YtpifcidnpbkaoaaGreatDoor

/- The evaluator, 13: what reads; calls. No program in sight. -/
namespace Go.Proofs.YtpifcidnpbkaoaaGreatDoor
open Go Go.RowKit

theorem GlobOk.keep {ν : Nm} {gl : List (Nat × List AV)} {w w' : World} (h : GlobOk ν gl w) (hk : ∀ g, g < w.heap.size → w'.heap[g]? = w.heap[g]?) : GlobOk ν gl w' := fun g l hg i v hv => by
  obtain ⟨V, h1, h2⟩ := h g l hg i v hv
  have hlt := World.block_lt_of_cell? w _ h2
  exact ⟨V, h1, by rw [World.cell?_of_block (w := w) (hk g hlt)]; exact h2⟩
theorem WRel.glob {P : Program} {w0 w : World} {A : Anch} {ν : Nm} {s : St} (h : WRel P w0 A ν s w) : GlobOk ν s.x.gl w := h.ctx.gl.keep fun g hg => h.keep.block g hg (by simp)

/-- what is known of the things that D names -/
structure RRel (P : Program) (ν : Nm) (s : St) (D : Nat → Prop) (w : World) : Prop where
  f : ∀ i o, D i → s.h.get i = some o → ∃ g obj, ν i = some g ∧ w.heap[g]? = some obj ∧ ORel P ν o obj
  g : (∀ i, D i) → GlobOk ν s.x.gl w
theorem WRel.rrel {P : Program} {w0 w : World} {A : Anch} {ν : Nm} {s : St} (h : WRel P w0 A ν s w) : RRel P ν s (fun _ => True) w := ⟨fun i o _ hi => by
  obtain ⟨g, obj, h1, _, h3, h4⟩ := h.objs i o hi
  exact ⟨g, obj, h1, h3, h4⟩, fun _ => h.glob⟩

theorem findG_mem {g : Nat} : ∀ {gl : List (Nat × List AV)} {l : List AV}, findG g gl = some l → (g, l) ∈ gl
  | [], _, h => by cases h
  | (k, m) :: r, l, h => by
    unfold findG at h
    split at h
    · rename_i hb
      injection h with h
      subst h
      rw [Nat.eq_of_beq_eq_true hb]
      exact List.mem_cons_self ..
    · exact List.mem_cons_of_mem _ (findG_mem h)
theorem denL_of {ν : Nm} {w : World} {g : Nat} : ∀ (l : List AV) (k : Nat), (∀ i v, l[i]? = some v → ∃ V, den ν v = some V ∧ w.cell? ⟨g, k + i, none⟩ = some V) → ∃ L, denL ν l = some L ∧ ∀ i V, L[i]? = some V → w.cell? ⟨g, k + i, none⟩ = some V
  | [], k, _ => ⟨[], rfl, fun i V h => by simp at h⟩
  | v :: l, k, h => by
    obtain ⟨V, h1, h2⟩ := h 0 v rfl
    obtain ⟨L, h3, h4⟩ := denL_of l (k + 1) fun i u hu => by
      obtain ⟨U, h5, h6⟩ := h (i + 1) u (by simpa using hu)
      exact ⟨U, h5, by rw [show k + 1 + i = k + (i + 1) by omega]; exact h6⟩
    refine ⟨V :: L, denL_mk h1 h3, fun i U hU => ?_⟩
    cases i with
    | zero => simp at hU; subst hU; exact h2
    | succ i => rw [show k + (i + 1) = k + 1 + i by omega]; exact h4 i U (by simpa using hU)

section
variable {P : Program} {w0 w : World} {A : Anch} {ν : Nm} {s : St} {T : Tr AV} {N : Nat} {a : Act} {D : Nat → Prop}

theorem RRel.at_ (h : RRel P ν s D w) {i g : Nat} {o : AObj} (hD : D i) (hi : s.h.get i = some o) (hg : ν i = some g) : ∃ obj, w.heap[g]? = some obj ∧ ORel P ν o obj := by
  obtain ⟨g', obj, h1, h3, h4⟩ := h.f i o hD hi
  rw [hg] at h1
  injection h1 with h1
  subst h1
  exact ⟨obj, h3, h4⟩
theorem RRel.blk (h : RRel P ν s D w) {i g : Nat} {l : List AV} {t : TypeId} {c : Option Nat} (hD : D i) (hi : s.h.get i = some (.cells l t c)) (hg : ν i = some g) : ∃ L R, denL ν l = some L ∧ Blk w g t (L ++ R).toArray := by
  obtain ⟨obj, h1, h2⟩ := h.at_ hD hi hg
  cases obj <;> simp only [ORel] at h2 <;> try exact h2.elim
  obtain ⟨rfl, hfz, L, R, h3, h4, h5⟩ := h2
  exact ⟨L, R, h3, _, by rw [h1, ← h4], by rw [← h4]; exact hfz⟩
theorem RRel.map_ (h : RRel P ν s D w) {i g : Nat} {es : List (AV × AV × Nat)} {c : Nat} (hD : D i) (hi : s.h.get i = some (.map es c)) (hg : ν i = some g) : ∃ arr, w.heap[g]? = some (.map arr c) ∧ All2 (ERel ν) es arr.toList := by
  obtain ⟨obj, h1, h2⟩ := h.at_ hD hi hg
  cases obj <;> simp only [ORel] at h2 <;> try exact h2.elim
  obtain ⟨rfl, h2⟩ := h2
  exact ⟨_, h1, h2⟩
theorem RRel.iter_ (h : RRel P ν s D w) {i g : Nat} {m : Option Nat} {since stepped : Nat} {seen : List Nat} (hD : D i) (hi : s.h.get i = some (.iter m since seen stepped)) (hg : ν i = some g) : ∃ m' sn, w.heap[g]? = some (.mapIter m' since sn stepped) ∧ optN ν m m' ∧ sn.toList = seen := by
  obtain ⟨obj, h1, h2⟩ := h.at_ hD hi hg
  cases obj <;> simp only [ORel] at h2 <;> try exact h2.elim
  obtain ⟨h3, rfl, h4, rfl⟩ := h2
  exact ⟨_, _, h1, h3, h4⟩

theorem load_R (h : RRel P ν s D w) {t : TypeId} {i off g : Nat} {v : AV} (hD : D i) (hl : loadA P s t i off = some v) (hg : ν i = some g) : ∃ V, den ν v = some V ∧ (loadVar t ⟨g, off, none⟩).run P w = .ok V w := by
  unfold loadA at hl
  split at hl
  · rename_i l t' c hi
    obtain ⟨L, R, hL, hb⟩ := h.blk hD hi hg
    obtain ⟨V, h1, h2⟩ := partA_load (R := R) hL hl
    exact ⟨V, h1, run_loadVar hb h2⟩
  · cases hl
theorem loadG_R (h : GlobOk ν s.x.gl w) {t : TypeId} {g off : Nat} {v : AV} (hl : loadG P s t g off = some v) : ∃ V, den ν v = some V ∧ (loadVar t ⟨g, off, none⟩).run P w = .ok V w := by
  unfold loadG at hl
  split at hl
  · rename_i l hf
    obtain ⟨L, hL, hc⟩ := denL_of l 0 fun i v hv => by
      obtain ⟨V, h1, h2⟩ := h g l (findG_mem hf) i v hv
      exact ⟨V, h1, by rw [Nat.zero_add]; exact h2⟩
    obtain ⟨V, h1, h2⟩ := partA_load (R := []) hL hl
    rw [List.append_nil] at h2
    exact ⟨V, h1, run_loadVar_cells (fun j V hj => by have := hc j V hj; rwa [Nat.zero_add] at this) h2⟩
  · cases hl
theorem mapOf_R (h : RRel P ν s D w) {m : AV} {M : Value} {es : List (AV × AV × Nat)} {c : Nat} (hD : ∀ i, m = .map i → D i) (hm : den ν m = some M) (ho : mapOf s m = some (es, c)) : ∃ arr : Array MapEntry, All2 (ERel ν) es arr.toList ∧
    ((M = .map none ∧ arr = #[]) ∨ ∃ g, M = .map (some g) ∧ w.heap[g]? = some (.map arr c)) := by
  unfold mapOf at ho
  split at ho
  · simp only [Option.some.injEq, Prod.mk.injEq] at ho
    simp only [den, Option.some.injEq] at hm
    obtain ⟨rfl, rfl⟩ := ho
    subst hm
    exact ⟨#[], trivial, .inl ⟨rfl, rfl⟩⟩
  · rename_i i
    split at ho
    · rename_i es' c' hi
      simp only [Option.some.injEq, Prod.mk.injEq] at ho
      obtain ⟨rfl, rfl⟩ := ho
      obtain ⟨g, hg, rfl⟩ := map_den hm
      obtain ⟨arr, h1, h2⟩ := h.map_ (hD i rfl) hi hg
      exact ⟨arr, h2, .inr ⟨g, rfl, h1⟩⟩
    · cases ho
  · cases ho
/-- out of the entries alone -/
theorem lookup_R (h : RRel P ν s D w) {t : TypeId} {m k v : AV} {M K : Value} {ok : Bool} (hD : ∀ i, m = .map i → D i) (hl : lookupA P s t m k ok = some v) (hm : den ν m = some M) (hk : den ν k = some K) : ∃ V, den ν v = some V ∧ (Instr.lookup t M K ok).run P w = .ok V w := by
  unfold lookupA at hl
  split at hl
  · rename_i kt e hu
    split at hl
    · rename_i es c hf hes
      obtain ⟨arr, harr, hM⟩ := mapOf_R (P := P) h hD hm hes
      have hck := fun b => run_checkKey (P := P) (w := w) (ν := ν) (b := b) (n := 9998) hf hk
      have key : ∀ (F : Array MapEntry → Sem Value), (∀ w', (F arr).run P w' = ((Instr.checkKey arr.isEmpty 10000 kt K).bind fun _ => (Instr.findKey kt K arr.toList).bind fun r =>
          match r with
          | some (_, v) => pure (if ok then .tuple #[v, .bool true] else v)
          | none => (zeroValue e).bind fun z => pure (if ok then .tuple #[z, .bool false] else z)).run P w') → ∃ V, den ν v = some V ∧ (F arr).run P w = .ok V w := fun F hF => by
        rw [hF]
        split at hl
        · rename_i j v' b hfd
          obtain ⟨R, h1, h2⟩ := run_findKey (P := P) (w := w) hf hk harr hfd
          obtain ⟨me, _, _, rfl, hv, _⟩ := h1
          injection hl with hl
          subst hl
          refine ⟨if ok then .tuple #[me.val, .bool true] else me.val, ?_, ?_⟩
          · cases ok with
            | true => simp [den, denL, hv]
            | false => exact hv
          · rw [run_bind, hck]
            simp only []
            rw [run_bind, h2]
            rfl
        · rename_i hfd
          obtain ⟨R, h1, h2⟩ := run_findKey (P := P) (w := w) hf hk harr hfd
          simp only [FRes] at h1
          subst h1
          split at hl
          · rename_i z hz
            obtain ⟨Z, hZ, rz⟩ := run_zeroA (P := P) (ν := ν) (w := w) hz
            injection hl with hl
            subst hl
            refine ⟨if ok then .tuple #[Z, .bool false] else Z, ?_, ?_⟩
            · cases ok with
              | true => simp [den, denL, hZ]
              | false => exact hZ
            · rw [run_bind, hck]
              simp only []
              rw [run_bind, h2]
              simp only []
              rw [run_bind, rz]
              rfl
          · cases hl
        · cases hl
      have body : ∀ (arr : Array MapEntry) (w' : World), ((do
          Instr.checkKey arr.isEmpty 10000 kt K
          let (v, ok') ← match ← Instr.findKey kt K arr.toList with
            | some (_, v) => pure (v, true)
            | none => pure (← zeroValue e, false)
          pure (if ok then .tuple #[v, .bool ok'] else v)) : Sem Value).run P w' = ((Instr.checkKey arr.isEmpty 10000 kt K).bind fun _ => (Instr.findKey kt K arr.toList).bind fun r =>
          match r with
          | some (_, v) => pure (if ok then .tuple #[v, .bool true] else v)
          | none => (zeroValue e).bind fun z => pure (if ok then .tuple #[z, .bool false] else z)).run P w' := fun arr w' => by
        simp only [bind]
        rw [run_bind, run_bind]
        split
        · rename_i a w'' _
          rw [run_bind, run_bind]
          split
          · rename_i r w3 _
            cases r with
            | none =>
              simp only [run_bind]
              cases (zeroValue e).run P w3 <;> rfl
            | some p => rfl
          · rfl
        · rfl
      rcases hM with ⟨rfl, rfl⟩ | ⟨g, rfl, hg⟩
      · unfold Instr.lookup
        simp only [bind]
        rw [run_bind, run_underlying hu]
        exact key (fun arr => _) (fun w' => body #[] w')
      · unfold Instr.lookup
        simp only [bind]
        rw [run_bind, run_underlying hu]
        simp only []
        rw [run_bind, run_getObj hg (by simp)]
        simp only []
        rw [run_bind]
        exact key (fun arr => _) (fun w' => body arr w')
    · cases hl
  · cases hl
theorem entry_R (h : RRel P ν s (fun _ => True) w) {it v : AV} {IT : Value} (hn : entryAt s it = some v) (hi : den ν it = some IT) : ∃ V, den ν v = some V ∧ (Instr.entry IT).run P w = .ok V w := by
  unfold entryAt at hn
  split at hn
  · rename_i i
    obtain ⟨g, hg, rfl⟩ := ptr_den hi
    split at hn
    · rename_i m since seen stepped hit
      obtain ⟨m', sn, ho, hm, hsn⟩ := h.iter_ trivial hit hg
      obtain ⟨gm, hgm, rfl⟩ := hm
      split at hn
      · rename_i b es clock hb hmap
        obtain ⟨arr, hom, harr⟩ := h.map_ trivial hmap hgm
        split at hn
        · rename_i hc
          have hc := Nat.eq_of_beq_eq_true hc
          subst hc
          rw [Option.map_eq_some_iff] at hn
          obtain ⟨⟨k, v'⟩, hf, rfl⟩ := hn
          obtain ⟨me, h1, h2, h3⟩ := findBorn_rel harr hf
          refine ⟨.tuple #[me.key, me.val], by simp [den, denL, h2, h3], ?_⟩
          have hback : sn.back? = some b := by
            rw [lastL_eq, ← hsn, Array.getLast?_toList] at hb
            exact hb
          have hfind : arr.find? (fun e => e.born == b) = some me := by rw [← Array.find?_toList]; exact h1
          unfold Instr.entry
          simp only [bind]
          rw [run_bind, run_getObj ho (by simp)]
          simp only [hback]
          rw [run_bind, run_getObj hom (by simp)]
          simp only [bne_self_eq_false, Bool.false_eq_true, if_false, hfind]
          rfl
        · cases hn
      · cases hn
    · cases hn
  · cases hn
theorem len_R (h : RRel P ν s D w) {t ty kt e : TypeId} {x v : AV} {X : Value} (hD : ∀ i, x = .map i → D i) (hu : P.underlying t = some (.map kt e)) (hl : lenT P s (.map kt e) x = some v) (hx : den ν x = some X) (rest : List TypeId) :
    ∃ V, den ν v = some V ∧ (Builtin.len_ (t :: rest).toArray ty #[X]).run P w = .ok V w := by
  have start : ∀ {f : TypeDesc → Sem Value} {V : Value}, (f (.map kt e)).run P w = .ok V w → (Sem.bind (underlying t) f).run P w = .ok V w := fun hf => by rw [run_bind, run_underlying hu]; exact hf
  unfold Builtin.len_
  simp only [List.getElem?_toArray, List.getElem?_cons_zero, bind]
  cases x <;> simp only [lenT] at hl <;> (try (cases hl; done))
  · injection hl with hl
    simp only [den, Option.some.injEq] at hx
    subst hx hl
    exact ⟨_, rfl, start rfl⟩
  · rename_i i
    obtain ⟨g, hg, rfl⟩ := map_den hx
    split at hl
    · rename_i es c hi
      injection hl with hl
      subst hl
      obtain ⟨arr, ho, harr⟩ := h.map_ (hD i rfl) hi hg
      refine ⟨_, rfl, start ?_⟩
      simp only []
      rw [run_bind, run_getObj ho (by simp)]
      have := harr.length
      simp only [Array.length_toList] at this
      rw [this]
      rfl
    · cases hl

theorem bytes_push : ∀ (cs : List AV) (bs : List UInt8) (CS : List Value), bytesOf cs = some bs → denL ν cs = some CS → ∀ (s0 : ByteArray) (w : World),
    Sem.run P (forIn CS s0 fun (c : Value) (s : ByteArray) => match c with
      | Value.int IntKind.u8 n => (pure (ForInStep.yield (s.push (UInt8.ofNat n.toNat))) : Sem (ForInStep ByteArray))
      | _ => (stuck "bytesToString: byte expected").bind fun _ : PUnit => pure (ForInStep.yield s)) w = Result.ok (ByteArray.mk (s0.data.toList ++ bs).toArray) w
  | [], bs, CS, h, hd, s0, w => by
    simp only [bytesOf, mapO, Option.some.injEq] at h
    subst h
    rw [denL_nil hd]
    simp only [List.forIn_nil, List.append_nil]
    rfl
  | c :: cs, bs, CS, h, hd, s0, w => by
    obtain ⟨V, R, v1, v2, rfl⟩ := denL_cons hd
    unfold bytesOf at h
    simp only [mapO] at h
    split at h
    · cases h
    · rename_i y hy
      split at h
      · cases h
      · rename_i r hr
        injection h with h
        subst h
        split at hy
        · rename_i n
          injection hy with hy
          subst hy
          simp only [den, Option.some.injEq] at v1
          subst v1
          rw [List.forIn_cons]
          show (Sem.bind _ _).run P w = _
          rw [run_bind]
          have ih := bytes_push cs r R hr v2 (s0.push (UInt8.ofNat n)) w
          simp only [Int.ofNat_eq_natCast, Int.toNat_natCast, pure, Sem.run]
          rw [show (s0.data.toList ++ UInt8.ofNat n :: r) = ((s0.push (UInt8.ofNat n)).data.toList ++ r) by simp [ByteArray.push]]
          exact ih
        · cases hy
theorem cells_R (h : RRel P ν s D w) {x : AV} {X : Value} {cs : List AV} (hD : ∀ i off n c, x = .slice i off n c → D i) (hx : den ν x = some X) (hc : cellsOfSlice s 1 x = some cs) {bs : List UInt8} (hb : bytesOf cs = some bs) (hns : ∀ b, x ≠ .str b) : (Conv.bytesToString X).run P w = .ok (.string ⟨bs.toArray⟩) w := by
  cases x <;> simp only [cellsOfSlice] at hc <;> try (cases hc; done)
  case nslice =>
    simp only [den, Option.some.injEq] at hx hc
    subst hx hc
    simp only [bytesOf, mapO, Option.some.injEq] at hb
    subst hb
    rfl
  case tail i off o2 len c m0 =>
    simp only [Option.some.injEq] at hc
    subst hc
    simp only [bytesOf, mapO, Option.some.injEq] at hb
    subst hb
    have hX : ∃ a k, X = .slice (some a) 0 k := by
      simp only [den] at hx
      split at hx
      · split at hx <;> injection hx with hx <;> exact ⟨_, _, hx.symm⟩
      · cases hx
    obtain ⟨a, k, rfl⟩ := hX
    rfl
  case slice i off len c =>
    obtain ⟨g, C, hg, hC, hle, rfl⟩ := slice_den hx
    split at hc
    · rename_i l t c' hi
      obtain ⟨L, R, hL, hbk⟩ := h.blk (hD _ _ _ _ rfl) hi hg
      obtain ⟨h1, h2⟩ := denL_cut hL hc
      simp only [Nat.mul_one] at h1 h2
      have hload : (loadCells ⟨g, off, none⟩ len).run P w = .ok (((L.drop off).take len)).toArray w := by
        have := run_firstCells_some (P := P) w 1 len ⟨g, off, none⟩ len C ((L.drop off).take len) (by simpa using h2) (fun j u hj => by
          rw [addr_add, hbk.cell]
          rw [List.getElem?_take] at hj
          split at hj
          · rw [List.getElem?_drop] at hj
            simp only [List.getElem?_toArray]
            rw [List.getElem?_append_left (List.getElem?_eq_some_iff.1 hj).1]
            exact hj
          · cases hj)
        simpa [Builtin.firstCells] using this
      unfold Conv.bytesToString
      simp only [bind]
      rw [run_bind, hload]
      simp only []
      rw [run_bind]
      have := bytes_push (P := P) cs bs _ hb h1 ByteArray.empty w
      rw [show (ByteArray.empty.data.toList ++ bs) = bs from rfl] at this
      rw [List.forIn_toArray]
      erw [this]
      rfl
    · cases hc
  case str b => exact absurd rfl (hns b)

/-- what reads, out of the things that D names -/
theorem read_R {o : Oper} (hF : FRel ν T N a.tmps) (hk : kindA P o.op = 1) (h : RRel P ν s D w) (hD : (∀ k, targetA T o.op = some k → D k) ∧ (targetA T o.op = none → ∀ i, D i)) {v : AV} (hp : pureA P s T o.op = some v) : ∃ V, den ν v = some V ∧ (execOp a.eval o).run P w = .ok (.value V) w := by
  have fin : ∀ {x : Sem Value}, (∃ V, den ν v = some V ∧ x.run P w = .ok V w) → (execOp a.eval o = Sem.bind x fun v => Sem.pure (Next.value v)) → ∃ V, den ν v = some V ∧ (execOp a.eval o).run P w = .ok (.value V) w := fun ⟨V, h1, h2⟩ e => ⟨V, h1, by rw [e]; exact run_val h2⟩
  obtain ⟨hD1, hD2⟩ := hD
  cases hop : o.op <;> rw [hop] at hp hk hD1 hD2 <;> simp only [kindA] at hk <;> (try (cases hk; done))
  case load t x =>
    simp only [pureA] at hp
    split at hp
    · rename_i i off hx
      obtain ⟨g, hg, e⟩ := ptr_den (hF.evA hx)
      obtain ⟨V, h1, h2⟩ := load_R h (hD1 i (by simp only [targetA, hx])) hp hg
      refine fin (x := Instr.loadAt t (a.eval x)) ⟨V, h1, ?_⟩ (by unfold execOp; rw [hop]; rfl)
      rw [e]
      exact h2
    · rename_i g off hx
      have e := hF.evA hx
      simp only [den, Option.some.injEq] at e
      obtain ⟨V, h1, h2⟩ := loadG_R (h.g (hD2 (by simp only [targetA, hx]))) hp
      refine fin (x := Instr.loadAt t (a.eval x)) ⟨V, h1, ?_⟩ (by unfold execOp; rw [hop]; rfl)
      rw [← e]
      exact h2
    · cases hp
  case lookup t x ix ok =>
    simp only [pureA] at hp
    split at hp
    · rename_i m k hm hk'
      refine fin (lookup_R h (fun i hi => hD1 i (by subst hi; simp only [targetA, hm])) hp (hF.evA hm) (hF.evA hk')) (by unfold execOp; rw [hop]; rfl)
    · cases hp
  case entry it =>
    simp only [pureA] at hp
    cases hi : evA T it with
    | none => rw [hi] at hp; cases hp
    | some u =>
      rw [hi] at hp
      have hall : RRel P ν s (fun _ => True) w := ⟨fun i o _ hio => h.f i o (hD2 (by simp only [targetA]) i) hio, fun _ => h.g (hD2 (by simp only [targetA]))⟩
      exact fin (entry_R hall hp (hF.evA hi)) (by unfold execOp; rw [hop]; rfl)
  case convert src dst x =>
    split at hk
    · rename_i e hsrc
      simp only [pureA] at hp
      split at hp
      · rename_i k n hx
        rw [hsrc] at hp
        cases hdst : P.underlying dst with
        | none => rw [hdst] at hp; cases hp
        | some d =>
          rw [hdst] at hp
          cases d <;> simp only at hp <;> (try (cases hp; done))
          injection hp with hp
          subst hp
          have hd := hF.evA hx
          simp only [den, Option.some.injEq] at hd
          refine fin (x := convert src dst (a.eval x)) ⟨_, rfl, ?_⟩ (by unfold execOp; rw [hop]; rfl)
          rw [← hd]
          unfold convert
          simp only [bind]
          rw [run_bind, run_underlying hsrc]
          simp only []
          rw [run_bind, run_underlying hdst]
          rfl
      · rename_i b hx
        rw [hsrc] at hp
        cases hdst : P.underlying dst with
        | none => rw [hdst] at hp; cases hp
        | some d =>
          rw [hdst] at hp
          cases d <;> simp only at hp <;> (try (cases hp; done))
          injection hp with hp
          subst hp
          have hd := hF.evA hx
          simp only [den, Option.some.injEq] at hd
          refine fin (x := convert src dst (a.eval x)) ⟨_, rfl, ?_⟩ (by unfold execOp; rw [hop]; rfl)
          rw [← hd]
          unfold convert
          simp only [bind]
          rw [run_bind, run_underlying hsrc]
          simp only []
          rw [run_bind, run_underlying hdst]
          rfl
      · rename_i k u hx
        obtain ⟨n, hn, hd⟩ := sym_den (hF.evA hx)
        rw [hsrc] at hp
        cases hdst : P.underlying dst with
        | none => rw [hdst] at hp; cases hp
        | some d =>
          rw [hdst] at hp
          cases d <;> simp only at hp <;> (try (cases hp; done))
          rename_i k'
          injection hp with hp
          subst hp
          refine fin (x := convert src dst (a.eval x)) ⟨.int k' (k'.wrap n), by simp only [den, denT, hn], ?_⟩ (by unfold execOp; rw [hop]; rfl)
          rw [hd]
          unfold convert
          simp only [bind]
          rw [run_bind, run_underlying hsrc]
          simp only []
          rw [run_bind, run_underlying hdst]
          rfl
      · rename_i u hni hns hnsy hx
        cases hdst : P.underlying dst with
        | none => rw [hsrc, hdst] at hp; cases hp
        | some d =>
          rw [hsrc, hdst] at hp
          cases d <;> simp only at hp <;> (try (cases hp; done))
          split at hp
          · rename_i cs he hcs
            split at hp
            · rename_i n hn
              split at hp
              · rw [Option.map_eq_some_iff] at hp
                obtain ⟨bs, hbs, rfl⟩ := hp
                have hX := hF.evA hx
                have hnstr : ∀ b, u ≠ .str b := fun b e => hns b (by rw [← e])
                refine fin (x := convert src dst (a.eval x)) ⟨.string ⟨bs.toArray⟩, rfl, ?_⟩ (by unfold execOp; rw [hop]; rfl)
                have hall : RRel P ν s (fun _ => True) w := ⟨fun i o _ hio => h.f i o (hD2 (by simp only [targetA]) i) hio, fun _ => h.g (hD2 (by simp only [targetA]))⟩
                have hc := cells_R (P := P) hall (fun _ _ _ _ _ => trivial) hX hcs hbs hnstr
                unfold convert
                simp only [bind]
                rw [run_bind, run_underlying hsrc]
                simp only []
                rw [run_bind, run_underlying hdst]
                simp only []
                have : ∃ A m c, a.eval x = .slice A m c := by
                  cases u <;> simp only [cellsOfSlice] at hcs <;> try (cases hcs; done)
                  · exact absurd rfl (hnstr _)
                  · simp only [den, Option.some.injEq] at hX
                    exact ⟨_, _, _, hX.symm⟩
                  · obtain ⟨g, C, _, _, _, e⟩ := slice_den hX
                    exact ⟨_, _, _, e⟩
                  · simp only [den] at hX
                    split at hX
                    · split at hX <;> injection hX with hX <;> exact ⟨_, _, _, hX.symm⟩
                    · cases hX
                obtain ⟨A, m, c, e⟩ := this
                rw [e] at hc ⊢
                cases A <;> (simp only []; rw [run_bind, run_underlying he]; exact hc)
              · cases hp
            · cases hp
          · cases hp
      · cases hp
    · split at hk <;> cases hk
    · cases hk
    · cases hk
    · cases hk
  case call c =>
    split at hk
    · rename_i hc
      split at hk
      · cases hk
      · rename_i hwl
        simp only [pureA, hc] at hp
        split at hp
        · rename_i x t hx ht
          split at hp
          · rename_i d u hu hxe
            have hmap : ∃ kt e, d = .map kt e := by
              simp only [worldless, hc, ht, hu] at hwl
              cases d <;> first | exact ⟨_, _, rfl⟩ | (simp at hwl)
            obtain ⟨kt, e, rfl⟩ := hmap
            have hat : ∃ rest, c.argTypes = (t :: rest).toArray := by
              cases hL : c.argTypes.toList with
              | nil => rw [← Array.getElem?_toList, hL] at ht; cases ht
              | cons t' rest =>
                rw [← Array.getElem?_toList, hL] at ht
                injection ht with ht
                subst ht
                exact ⟨rest, arr_of hL⟩
            obtain ⟨rest, hat⟩ := hat
            obtain ⟨V, h1, h2⟩ := len_R (P := P) (ty := o.type) h (fun i hi => hD1 i (by subst hi; simp only [targetA, hx, hxe])) hu hp (hF.evA hxe) rest
            refine ⟨V, h1, ?_⟩
            rw [run_builtin hop hc, hat, arr_of hx]
            simp only [List.map_toArray, List.map_cons, List.map_nil]
            exact run_val h2
          · cases hp
        · cases hp
    · cases hk
    · cases hk
    · cases hk
    · cases hk
end

end Go.Proofs.YtpifcidnpbkaoaaGreatDoor
