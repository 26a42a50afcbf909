/- The evaluator, 10: one operation. No program in sight. -/
import Derived.Test.YtcjbpaiomcfgnaaGreatDoorGb
import Derived.Lib.ConvBytes
import Derived.IntWalk
set_option linter.unusedVariables false
set_option linter.unusedSimpArgs false
namespace Go.Proofs.YtcjbpaiomcfgnaaGreatDoor
open Go Go.RowKit
section
variable {P : Program} {w0 w : World} {A : Anch} {ν : Nm} {s : St} {T : Tr AV} {N : Nat} {a : Act}
theorem uni {v : AV} {R : Value → World → Prop} (h : ∀ w : World, ∃ V, den ν v = some V ∧ R V w) : ∃ V, den ν v = some V ∧ ∀ w, R V w := by
 obtain ⟨V, hV, _⟩ := h default
 refine ⟨V, hV, fun w => ?_⟩
 obtain ⟨U, hU, r⟩ := h w
 rw [hV] at hU
 injection hU with hU
 subst hU
 exact r
theorem run_val {x : Sem Value} {V : Value} {w w' : World} (h : x.run P w = .ok V w') : (Sem.bind x fun v => Sem.pure (Next.value v)).run P w = .ok (.value V) w' := by
 rw [run_bind, h]
 rfl
theorem run_unit {x : Sem Unit} {w w' : World} (h : x.run P w = .ok () w') : (Sem.bind x fun _ => Sem.pure Next.skip).run P w = .ok .skip w' := by
 rw [run_bind, h]
 rfl
theorem opt_den (hF : FRel ν T N a.tmps) {x : Option Operand} {l : Option AV} (h : optA T x = some l) : optD ν l (x.map a.eval) := by
 cases x with
 | none => simp only [optA, Option.some.injEq] at h; subst h; rfl
 | some x =>
  simp only [optA] at h
  split at h
  ·rename_i v hv
   injection h with h
   subst h
   exact ⟨_, hF.evA hv, rfl⟩
  ·cases h
theorem list_den (hF : FRel ν T N a.tmps) : ∀ {l : List Operand} {vs : List AV}, mapO (evA T) l = some vs → denL ν vs = some (l.map a.eval)
 | [], vs, h => by simp only [mapO, Option.some.injEq] at h; subst h; rfl
 | x :: l, vs, h => by
  simp only [mapO] at h
  split at h
  ·cases h
  ·rename_i y hy
   split at h
   ·cases h
   ·rename_i m hm
    injection h with h
    subst h
    exact denL_mk (hF.evA hy) (list_den hF hm)
theorem parts_den (hF : FRel ν T N a.tmps) : ∀ {l : List (Nat × Operand)} {ps : List (Nat × AV)}, mapO (fun p : Nat × Operand => (evA T p.2).map fun v => (p.1, v)) l = some ps → All2 (PRel ν) ps (l.map fun p => (p.1, a.eval p.2))
 | [], vs, h => by simp only [mapO, Option.some.injEq] at h; subst h; trivial
 | x :: l, vs, h => by
  simp only [mapO] at h
  split at h
  ·cases h
  ·rename_i y hy
   split at h
   ·cases h
   ·rename_i m hm
    injection h with h
    subst h
    rw [Option.map_eq_some_iff] at hy
    obtain ⟨v, hv, rfl⟩ := hy
    exact ⟨⟨rfl, hF.evA hv⟩, parts_den hF hm⟩
theorem bind_natOf {x : Option AV} {n : Nat} (h : x.bind natOf = some n) : ∃ v, x = some v ∧ natOf v = some n := by
 cases x with
 | none => cases h
 | some v => exact ⟨v, rfl, h⟩
theorem run_eqGuard {op : BinOp} {t : TypeId} {x y : Operand} {X Y : Value} (hg : P.eqGuardType P.depth t = false) : (eqGuard op t x y X Y).run P w = .ok () w ∨ (X = .nilIface ∧ Y = .nilIface) := by
 by_cases hn : X = .nilIface ∧ Y = .nilIface
 ·exact .inr hn
 ·left
  unfold eqGuard
  cases op <;> first | rfl | skip
  all_goals
   simp only [Bool.not_true, Bool.false_eq_true, if_false, bind]
   cases X <;> cases Y <;> first | rfl | (exact absurd ⟨rfl, rfl⟩ hn) | (simp [program, bind, Sem.bind, Sem.run, pure, hg])
def simpleA : AV → Bool
 | .bool _ => true
 | .nptr => true
 | .ptr _ _ => true
 | .nslice => true
 | .slice .. => true
 | .nmap => true
 | .map _ => true
 | .func .. => true
 | .nfunc => true
 | .agg _ => true
 | _ => false
def simpleV : Value → Bool
 | .bool _ => true
 | .pointer _ => true
 | .slice .. => true
 | .map _ => true
 | .func .. => true
 | .nilFunc => true
 | .agg _ => true
 | _ => false
theorem simple_den {v : AV} {V : Value} (h : simpleA v = true) (hv : den ν v = some V) : simpleV V = true := by
 cases v <;> first | (cases h; done) | skip
 all_goals simp only [den] at hv
 all_goals repeat' split at hv
 all_goals first | (cases hv; done) | (injection hv with hv; subst hv; rfl)
theorem eqA_kinds {d : Nat} {t : TypeId} {x y : AV} {b : Bool} (h : eqA P d t x y = some b) : (∃ k p k' q, x = .int k p ∧ y = .int k' q) ∨ (∃ p q, x = .str p ∧ y = .str q) ∨ (simpleA x = true ∧ simpleA y = true) := by
 cases d with
 | zero => simp [eqA] at h
 | succ d =>
  unfold eqA at h
  split at h
  all_goals first
   | (cases h; done)
   | (split at h <;> first | (cases h; done) | exact .inr (.inr ⟨rfl, rfl⟩) | exact .inl ⟨_, _, _, _, rfl, rfl⟩ | exact .inr (.inl ⟨_, _, rfl, rfl⟩))
theorem run_eq_simple {t : TypeId} {X Y : Value} {b : Bool} {w : World} (hx : simpleV X = true) (hy : simpleV Y = true) (h : (Op.equal t X Y).run P w = .ok b w) : (binOp .eql t X Y).run P w = .ok (.bool b) w ∧ (binOp .neq t X Y).run P w = .ok (.bool !b) w := by
 have e1 : (Sem.bind (Op.equal t X Y) fun b => Sem.pure (Value.bool b)).run P w = .ok (.bool b) w := by rw [run_bind, h]; rfl
 have e2 : (Sem.bind (Op.equal t X Y) fun b => Sem.pure (Value.bool !b)).run P w = .ok (.bool !b) w := by rw [run_bind, h]; rfl
 cases X <;> first | (cases hx; done) | skip
 all_goals cases Y <;> first | (cases hy; done) | exact ⟨e1, e2⟩
theorem binA_rel {op : BinOp} {t : TypeId} {x y v : AV} {X Y : Value} (h : binA P op t x y = some v) (hx : den ν x = some X) (hy : den ν y = some Y) (xo yo : Operand) (w : World) :
  ∃ V, den ν v = some V ∧ (Sem.bind (eqGuard op t xo yo X Y) fun _ => binOp op t X Y).run P w = .ok V w := by
 unfold binA at h
 split at h
 ·rename_i k p k' q
  simp only [den, Option.some.injEq] at hx hy
  subst hx hy
  have hg : (eqGuard op t xo yo (.int k p) (.int k' q)).run P w = .ok () w := by unfold eqGuard; cases op <;> rfl
  have go : (∃ V, den ν v = some V ∧ (binOp op t (.int k p) (.int k' q)).run P w = .ok V w) → ∃ V, den ν v = some V ∧ (Sem.bind (eqGuard op t xo yo (.int k p) (.int k' q)) fun _ => binOp op t (.int k p) (.int k' q)).run P w = .ok V w := fun ⟨V, h1, h2⟩ => ⟨V, h1, by rw [run_bind, hg]; exact h2⟩
  apply go
  split at h
  ·exact run_shift h (.inl rfl) t
  ·exact run_shift h (.inr rfl) t
  ·split at h
   ·rename_i hk
    have := kindEq_spec hk
    subst this
    exact run_intBin h t
   ·cases h
 ·rename_i p q
  simp only [den, Option.some.injEq] at hx hy
  subst hx hy
  obtain ⟨V, h1, h2⟩ := run_strBin (P := P) (w := w) (ν := ν) h t
  have hg : (eqGuard op t xo yo (.string ⟨p.toArray⟩) (.string ⟨q.toArray⟩)).run P w = .ok () w := by unfold eqGuard; cases op <;> rfl
  exact ⟨V, h1, by rw [run_bind, hg]; exact h2⟩
 ·rename_i hni hns
  have key : ∀ (b : Bool), (op = .eql ∨ op = .neq) → P.eqGuardType P.depth t = false → eqA P 12 t x y = some b → (Sem.bind (eqGuard op t xo yo X Y) fun _ => binOp op t X Y).run P w = .ok (.bool (if op = .eql then b else !b)) w := fun b hop hgd hb => by
   have hr := eqA_sound (P := P) (w := w) 12 Op.maxDepth t x y b X Y (by decide) hb hx hy
   have hs : simpleV X = true ∧ simpleV Y = true := by
    rcases eqA_kinds hb with ⟨k, p, k', q, rfl, rfl⟩ | ⟨p, q, rfl, rfl⟩ | ⟨h1, h2⟩
    ·exact absurd rfl (hni k p k' q rfl)
    ·exact absurd rfl (hns p q rfl)
    ·exact ⟨simple_den h1 hx, simple_den h2 hy⟩
   have hnn : ¬ (X = .nilIface ∧ Y = .nilIface) := fun hc => by
    rw [hc.1] at hs
    cases hs.1
   rw [run_bind, (run_eqGuard (w := w) (op := op) (x := xo) (y := yo) hgd).resolve_right hnn]
   simp only []
   have e1 := run_eq_simple (P := P) (t := t) hs.1 hs.2 hr
   rcases hop with rfl | rfl
   ·simpa using e1.1
   ·simpa using e1.2
  split at h
  ·split at h
   ·cases h
   ·rename_i hgd
    rw [Option.map_eq_some_iff] at h
    obtain ⟨b, hb, rfl⟩ := h
    exact ⟨_, rfl, by have := key b (.inl rfl) hgd hb; simpa using this⟩
  ·split at h
   ·cases h
   ·rename_i hgd
    rw [Option.map_eq_some_iff] at h
    obtain ⟨b, hb, rfl⟩ := h
    exact ⟨_, rfl, by have := key b (.inr rfl) hgd hb; simpa using this⟩
  ·cases h
theorem tmOf_den {x : AV} {X : Value} {k : IntKind} {a : Tm} (h : tmOf x = some (k, a)) (hx : den ν x = some X) : ∃ n, denT ν a = some (.n n) ∧ X = .int k n := by
 unfold tmOf at h
 split at h
 ·simp only [Option.some.injEq, Prod.mk.injEq] at h
  obtain ⟨rfl, rfl⟩ := h
  simp only [den, Option.some.injEq] at hx
  exact ⟨_, rfl, hx.symm⟩
 ·simp only [Option.some.injEq, Prod.mk.injEq] at h
  obtain ⟨rfl, rfl⟩ := h
  obtain ⟨n, h1, h2⟩ := sym_den hx
  exact ⟨n, h1, h2⟩
 ·cases h
theorem dec01 (c : Bool) : decide ((if c = true then (1 : Int) else 0) ≠ 0) = c := by cases c <;> rfl
theorem symBin_den {op : BinOp} {k : IntKind} {a b : Tm} {x y : Int} {v : AV} (h : symBin op k a b = some v) (ha : denT ν a = some (.n x)) (hb : denT ν b = some (.n y)) : op ≠ .shl ∧ op ≠ .shr ∧ ∃ u, intBinA op k x y = some u ∧ ∀ V, den ν u = some V → den ν v = some V := by
 cases op <;> simp only [symBin] at h <;> (try (cases h; done)) <;> injection h with h <;> subst h <;> refine ⟨by simp, by simp, _, rfl, fun V hV => ?_⟩ <;> simp only [den, Option.some.injEq] at hV <;> subst hV <;> simp only [den, denT, ha, hb, binZ, intBinA]
 all_goals exact congrArg (fun b => some (Value.bool b)) (dec01 _)
theorem binS_rel {op : BinOp} {t : TypeId} {x y v : AV} {X Y : Value} (h : binS P op t x y = some v) (hx : den ν x = some X) (hy : den ν y = some Y) (xo yo : Operand) (w : World) :
  ∃ V, den ν v = some V ∧ (Sem.bind (eqGuard op t xo yo X Y) fun _ => binOp op t X Y).run P w = .ok V w := by
 unfold binS at h
 split at h
 ·rename_i u hu
  injection h with h
  subst h
  exact binA_rel hu hx hy xo yo w
 ·unfold symA at h
  split at h
  ·rename_i k a k' b ha hb
   split at h
   ·rename_i hk
    have := kindEq_spec hk
    subst this
    obtain ⟨n, h1, rfl⟩ := tmOf_den ha hx
    obtain ⟨m, h2, rfl⟩ := tmOf_den hb hy
    obtain ⟨h3, h4, u, hu, hd⟩ := symBin_den h h1 h2
    have hb' : binA P op t (.int k n) (.int k m) = some u := by
     cases op <;> first | exact absurd rfl h3 | exact absurd rfl h4 | (simp only [binA, hk]; exact hu)
    obtain ⟨V, h5, h6⟩ := binA_rel (ν := ν) hb' rfl rfl xo yo w
    exact ⟨V, hd V h5, h6⟩
   ·cases h
  ·cases h
def plainV : Value → Bool
 | .pointer _ => true
 | .iface _ _ => true
 | .nilIface => true
 | _ => false
theorem run_eq_plain {t : TypeId} {X Y : Value} {b : Bool} {w : World} (hx : plainV X = true) (hy : plainV Y = true) (h : (Op.equal t X Y).run P w = .ok b w) : (binOp .eql t X Y).run P w = .ok (.bool b) w ∧ (binOp .neq t X Y).run P w = .ok (.bool !b) w := by
 have e1 : (Sem.bind (Op.equal t X Y) fun b => Sem.pure (Value.bool b)).run P w = .ok (.bool b) w := by rw [run_bind, h]; rfl
 have e2 : (Sem.bind (Op.equal t X Y) fun b => Sem.pure (Value.bool !b)).run P w = .ok (.bool !b) w := by rw [run_bind, h]; rfl
 cases X <;> first | (cases hx; done) | skip
 all_goals cases Y <;> first | (cases hy; done) | exact ⟨e1, e2⟩
theorem run_guard_plain {op : BinOp} {t : TypeId} {x y : Operand} {X Y : Value} {w : World} (hx : plainV X = true) (hc : X = .nilIface → Y = .nilIface → (isConst x || isConst y) = true) : (eqGuard op t x y X Y).run P w = .ok () w := by
 unfold eqGuard
 cases op <;> first | rfl | skip
 all_goals
  cases X <;> first | (cases hx; done) | skip
  all_goals cases Y <;> first | rfl | skip
  have := hc rfl rfl
  cases x <;> cases y <;> first | rfl | (cases this)
theorem addr_beq (g m n : Nat) : ((⟨g, m, none⟩ : Addr) == ⟨g, n, none⟩) = Nat.beq m n := by
 cases h : Nat.beq m n with
 | true =>
  have := Nat.eq_of_beq_eq_true h
  subst this
  simp
 | false =>
  have := Nat.ne_of_beq_eq_false h
  simp [this]
theorem ptrEq_sound {t : TypeId} {x y : AV} {b : Bool} {X Y : Value} {w : World} (h : ptrEq P t x y = some b) (hx : den ν x = some X) (hy : den ν y = some Y) : plainV X = true ∧ plainV Y = true ∧ X ≠ .nilIface ∧ (Op.equal t X Y).run P w = .ok b w := by
 unfold ptrEq at h
 split at h
 ·rename_i e i m j n hu
  split at h
  ·rename_i s hs hij
   have := Nat.eq_of_beq_eq_true hij
   subst this
   injection h with h
   subst h
   obtain ⟨g, hg, rfl⟩ := ptr_den hx
   obtain ⟨g', hg', rfl⟩ := ptr_den hy
   rw [hg] at hg'
   injection hg' with hg'
   subst hg'
   refine ⟨rfl, rfl, by simp, ?_⟩
   obtain ⟨inf, hi, hsz⟩ := sizeT_spec hs
   show (Op.equalIn (9999 + 1) t _ _).run P w = _
   rw [Op.equalIn]
   show (Sem.bind (underlying t) _).run P w = _
   rw [run_bind, run_underlying hu]
   simp only [bind]
   rw [run_bind, run_sizeOf hi]
   simp only []
   rw [if_pos (by omega)]
   unfold sameAddr
   rw [if_pos (by simp)]
   show Result.ok _ _ = _
   rw [addr_beq]
  ·cases h
 ·cases h
theorem ifaceEq_sound {t : TypeId} {c b : Bool} {x y : AV} {X Y : Value} {w : World} (h : ifaceEq P t c x y = some b) (hx : den ν x = some X) (hy : den ν y = some Y) : plainV X = true ∧ plainV Y = true ∧ (X = .nilIface → Y = .nilIface → c = true) ∧ (Op.equal t X Y).run P w = .ok b w := by
 unfold ifaceEq at h
 split at h
 ·rename_i ms hu
  have go : ∀ {U V : Value} {q : Bool}, (∀ {s : TypeDesc → Sem Bool}, (s (.interface ms)).run P w = .ok q w → (Sem.bind (underlying t) s).run P w = .ok q w) := fun hs => by
   rw [run_bind, run_underlying hu]; exact hs
  split at h
  ·split at h
   ·injection h with h
    subst h
    simp only [den, Option.some.injEq] at hx hy
    subst hx hy
    refine ⟨rfl, rfl, fun _ _ => rfl, ?_⟩
    show (Op.equalIn (9999 + 1) t _ _).run P w = _
    rw [Op.equalIn]
    exact go (U := .nilIface) (V := .nilIface) rfl
   ·cases h
  ·rename_i ty vy
   injection h with h
   subst h
   simp only [den, Option.some.injEq] at hx
   subst hx
   simp only [den] at hy
   split at hy
   ·rename_i V hV
    injection hy with hy
    subst hy
    refine ⟨rfl, rfl, fun _ e => (by cases e), ?_⟩
    show (Op.equalIn (9999 + 1) t _ _).run P w = _
    rw [Op.equalIn]
    exact go (U := .nilIface) (V := .nilIface) rfl
   ·cases hy
  ·rename_i ty vy
   injection h with h
   subst h
   simp only [den, Option.some.injEq] at hy
   subst hy
   simp only [den] at hx
   split at hx
   ·rename_i V hV
    injection hx with hx
    subst hx
    refine ⟨rfl, rfl, fun e => (by cases e), ?_⟩
    show (Op.equalIn (9999 + 1) t _ _).run P w = _
    rw [Op.equalIn]
    exact go (U := .nilIface) (V := .nilIface) rfl
   ·cases hx
  ·rename_i tx vx ty vy
   simp only [den] at hx hy
   split at hx
   ·rename_i VX hVX
    injection hx with hx
    subst hx
    split at hy
    ·rename_i VY hVY
     injection hy with hy
     subst hy
     refine ⟨rfl, rfl, fun e => (by cases e), ?_⟩
     show (Op.equalIn (9999 + 1) t _ _).run P w = _
     rw [Op.equalIn]
     refine go (U := .nilIface) (V := .nilIface) ?_
     split at h
     ·rename_i hne
      injection h with h
      subst h
      have := Nat.ne_of_beq_eq_false hne
      simp only [bind]
      rw [if_pos this]
      rfl
     ·rename_i he
      have := Nat.eq_of_beq_eq_true he
      subst this
      split at h
      ·rename_i inf hi
       split at h
       ·rename_i hcmp
        simp only [bind]
        rw [if_neg (by simp), run_bind, run_info hi]
        simp only [hcmp]
        exact eqA_sound (P := P) (w := w) 12 9999 tx vx vy b VX VY (by decide) h hVX hVY
       ·cases h
      ·cases h
    ·cases hy
   ·cases hx
  ·cases h
 ·cases h
theorem eqlA_rel {op : BinOp} {t : TypeId} {x y v : AV} {X Y : Value} {xo yo : Operand} (h : eqlA P op t (isConst xo || isConst yo) x y = some v) (hx : den ν x = some X) (hy : den ν y = some Y) (w : World) :
  ∃ V, den ν v = some V ∧ (Sem.bind (eqGuard op t xo yo X Y) fun _ => binOp op t X Y).run P w = .ok V w := by
 unfold eqlA at h
 have fin : ∀ b, plainV X = true → plainV Y = true → (X = .nilIface → Y = .nilIface → (isConst xo || isConst yo) = true) → (Op.equal t X Y).run P w = .ok b w →
   (match (generalizing := false) op with | .eql => some (AV.bool b) | .neq => some (.bool (!b)) | _ => none) = some v → ∃ V, den ν v = some V ∧ (Sem.bind (eqGuard op t xo yo X Y) fun _ => binOp op t X Y).run P w = .ok V w := fun b h1 h2 h3 h4 h5 => by
  obtain ⟨e1, e2⟩ := run_eq_plain (P := P) h1 h2 h4
  rw [run_bind, run_guard_plain (P := P) (op := op) (t := t) (w := w) h1 h3]
  simp only []
  cases op <;> simp only at h5 <;> (try (cases h5; done)) <;> injection h5 with h5 <;> subst h5
  ·exact ⟨_, rfl, e1⟩
  ·exact ⟨_, rfl, e2⟩
 split at h
 ·rename_i b hb
  split at hb
  ·rename_i b' hp
   injection hb with hb
   subst hb
   obtain ⟨h1, h2, h3, h4⟩ := ptrEq_sound (P := P) (w := w) hp hx hy
   exact fin _ h1 h2 (fun e => absurd e h3) h4 h
  ·obtain ⟨h1, h2, h3, h4⟩ := ifaceEq_sound (P := P) (w := w) hb hx hy
   exact fin _ h1 h2 h3 h4 h
 ·cases h
theorem unA_rel {op : UnOp} {x v : AV} {X : Value} (h : unA op x = some v) (hx : den ν x = some X) (w : World) : ∃ V, den ν v = some V ∧ (Op.unary op X).run P w = .ok V w := by
 unfold unA at h
 split at h
 ·injection h with h
  simp only [den, Option.some.injEq] at hx
  subst hx h
  exact ⟨_, rfl, rfl⟩
 ·rename_i k n
  simp only [den, Option.some.injEq] at hx
  subst hx
  simp only [intBinA, Option.some.injEq] at h
  subst h
  exact ⟨_, rfl, rfl⟩
 ·injection h with h
  simp only [den, Option.some.injEq] at hx
  subst hx h
  exact ⟨_, rfl, rfl⟩
 ·cases h
theorem indexAt_slice {t e : TypeId} {g off n C j z : Nat} {k : IntKind} (hu : P.underlying t = some (.slice e)) (hj : j < n) (hz : sizeT P e = some z) (w : World) :
  (Instr.indexAt t (.slice (some ⟨g, off, none⟩) n C) (.int k (.ofNat j))).run P w = .ok (.pointer (some ⟨g, off + j * z, none⟩)) w := by
 obtain ⟨i, hi, rfl⟩ := sizeT_spec hz
 have := run_indexAt (P := P) (w := w) (ad := ⟨g, off, none⟩) (n := n) (m := C) (k := k) (i := (j : Int)) hu hi (by omega) (by omega)
 rw [addr_add] at this
 exact this
theorem indexAt_array {t e : TypeId} {g off n j z : Nat} {k : IntKind} (hu : P.underlying t = some (.array n e)) (hj : j < n) (hz : sizeT P e = some z) (w : World) :
  (Instr.indexAt t (.pointer (some ⟨g, off, none⟩)) (.int k (.ofNat j))).run P w = .ok (.pointer (some ⟨g, off + j * z, none⟩)) w := by
 unfold Instr.indexAt
 simp only [asIntOf, bind, pure, Sem.bind]
 rw [run_bind, run_underlying hu]
 simp only [Sem.bind, Instr.sureAddr, pure]
 rw [run_bind, run_underlying hu]
 have h0 : (0 : Int) ≤ Int.ofNat j ∧ Int.ofNat j < (n : Int) := ⟨Int.natCast_nonneg j, Int.ofNat_lt.2 hj⟩
 simp only [h0, and_self, if_true]
 rw [run_bind, run_sizeT hz]
 simp only []
 show Result.ok (Value.pointer (some ((⟨g, off, none⟩ : Addr).add (j * z)))) w = _
 rw [addr_add]
end
end Go.Proofs.YtcjbpaiomcfgnaaGreatDoor
namespace Go.Proofs.YtcjbpaiomcfgnaaGreatDoor
open Go Go.RowKit
section
variable {P : Program} {w0 w : World} {A : Anch} {ν : Nm} {s : St} {T : Tr AV} {N : Nat} {a : Act}
theorem arr_of {α : Type} {x : Array α} {l : List α} (h : x.toList = l) : x = l.toArray := by rw [← h]
theorem run_builtin {o : Oper} {c : Call} {b : Builtin} (hop : o.op = .call c) (hc : c.callee = .builtin b) (ρ : Operand → Value) (w : World) :
  (execOp ρ o).run P w = (builtin b c.argTypes o.type (c.args.map fun | .const _ => true | _ => false) (c.args.map ρ)).run P w := by
 unfold execOp
 rw [hop]
 simp only [resolve, hc, bind, pure, Sem.bind, invoke]
 rfl
theorem fnOf_spec {f : AFn} {fn : Fn} (h : fnOf ν f = some fn) : (∃ g, fn = .func g) ∨ ∃ g, fn = .yield g := by
 cases f with
 | func g => simp only [fnOf, Option.some.injEq] at h; exact .inl ⟨g, h.symm⟩
 | yield l =>
  simp only [fnOf] at h
  split at h
  ·injection h with h; exact .inr ⟨_, h.symm⟩
  ·cases h
theorem run_len {t ty : TypeId} {d : TypeDesc} {x v : AV} {X : Value} (hu : P.underlying t = some d) (h : lenT P s d x = some v) (hx : den ν x = some X) (hd : (∀ k e, d ≠ .map k e) ∨ WRel P w0 A ν s w) (rest : List TypeId) :
  ∃ V, den ν v = some V ∧ (Builtin.len_ (t :: rest).toArray ty #[X]).run P w = .ok V w := by
 have start : ∀ {f : TypeDesc → Sem Value} {V : Value}, (f d).run P w = .ok V w → (Sem.bind (underlying t) f).run P w = .ok V w := fun hf => by rw [run_bind, run_underlying hu]; exact hf
 unfold lenT at h
 unfold Builtin.len_
 simp only [List.getElem?_toArray, List.getElem?_cons_zero, bind]
 split at h
 ·injection h with h
  simp only [den, Option.some.injEq] at hx
  subst hx h
  exact ⟨_, rfl, start rfl⟩
 ·injection h with h
  simp only [den, Option.some.injEq] at hx
  subst hx h
  exact ⟨_, rfl, start rfl⟩
 ·injection h with h
  obtain ⟨g, C, _, _, _, rfl⟩ := slice_den hx
  subst h
  exact ⟨_, rfl, start rfl⟩
 ·injection h with h
  subst h
  exact ⟨_, rfl, start rfl⟩
 ·rename_i el _
  split at h
  ·rename_i n e he
   injection h with h
   subst h
   refine ⟨_, rfl, start ?_⟩
   simp only []
   rw [run_bind, run_underlying he]
   rfl
  ·cases h
 ·injection h with h
  simp only [den, Option.some.injEq] at hx
  subst hx h
  exact ⟨_, rfl, start rfl⟩
 ·rename_i kt e i
  obtain ⟨g, hg, rfl⟩ := map_den hx
  rcases hd with hd | hW
  ·exact absurd rfl (hd _ _)
  ·split at h
   ·rename_i es c hi
    injection h with h
    subst h
    obtain ⟨arr, ho, harr⟩ := hW.map_ hi hg
    refine ⟨_, rfl, start ?_⟩
    simp only []
    rw [run_bind, run_getObj ho (by simp)]
    have := harr.length
    simp only [Array.length_toList] at this
    rw [this]
    rfl
   ·cases h
 ·cases h
theorem run_fieldAt {st : TypeId} {fields : Array Field} {f : Nat} {fd : Field} {g off n : Nat} (hu : P.underlying st = some (.struct fields)) (hf : fields[f]? = some fd) (hs : sizeT P fd.type = some (n + 1)) (w : World) :
  (Instr.fieldAt st (.pointer (some ⟨g, off, none⟩)) f).run P w = .ok (.pointer (some ⟨g, off + fd.offset, none⟩)) w := by
 unfold Instr.fieldAt
 simp only [bind]
 rw [run_bind, run_underlying hu]
 simp only [hf]
 show (Sem.bind (Instr.sureAddr _) _).run P w = _
 rw [run_bind]
 show (Sem.bind (fieldPlace ⟨g, off, none⟩ fd) _).run P w = _
 rw [run_bind]
 unfold fieldPlace
 simp only [bind]
 rw [run_bind, run_sizeT hs]
 simp only [Nat.add_one_ne_zero, if_false]
 show Result.ok (Value.pointer (some ((⟨g, off, none⟩ : Addr).add fd.offset))) w = _
 rw [addr_add]
theorem pure0_rel {o : Oper} (hF : FRel ν T N a.tmps) (hwl : worldless P o.op = true) {v : AV} (h : pureA P s T o.op = some v) : ∃ V, den ν v = some V ∧ ∀ w, (execOp a.eval o).run P w = .ok (.value V) w := by
  apply uni
  intro w
  have fin : ∀ {x : Sem Value}, (∃ V, den ν v = some V ∧ x.run P w = .ok V w) → (execOp a.eval o = Sem.bind x fun v => Sem.pure (Next.value v)) → ∃ V, den ν v = some V ∧ (execOp a.eval o).run P w = .ok (.value V) w := fun ⟨V, h1, h2⟩ e => ⟨V, h1, by rw [e]; exact run_val h2⟩
  cases hop : o.op <;> rw [hop] at h hwl <;> simp only [pureA] at h <;> (try (cases h; done))
  case move x => exact ⟨_, hF.evA h, by unfold execOp; rw [hop]; rfl⟩
  case assign x => exact ⟨_, hF.evA h, by unfold execOp; rw [hop]; rfl⟩
  case pick c x y =>
    split at h
    · rename_i hc
      have := hF.evA hc
      simp only [den, Option.some.injEq] at this
      exact ⟨_, hF.evA h, by unfold execOp; rw [hop]; simp only [← this]; rfl⟩
    · rename_i hc
      have := hF.evA hc
      simp only [den, Option.some.injEq] at this
      exact ⟨_, hF.evA h, by unfold execOp; rw [hop]; simp only [← this]; rfl⟩
    · cases h
  case build t parts =>
    split at h
    · rename_i ps hps
      have hp := parts_den hF hps
      refine fin (x := Instr.build t (parts.map fun (i, x) => (i, a.eval x))) (run_build ?_ h trivial) (by unfold execOp; rw [hop]; rfl)
      simpa using hp
    · cases h
  case load => cases hwl
  case nilCheck x =>
    have key : ∀ {u : AV}, evA T x = some u → u ≠ .nptr → u ≠ .niface → u ≠ .nfunc → (∀ v, u ≠ .ext v) → (∀ e v, u ≠ .deep e v) → ∃ V, den ν u = some V ∧ (execOp a.eval o).run P w = .ok (.value V) w := fun {u} hu h1 h2 h3 h4 h5 => by
      have hd := hF.evA hu
      refine ⟨_, hd, ?_⟩
      unfold execOp
      rw [hop]
      simp only []
      cases u <;> simp only [den] at hd <;> (repeat' split at hd) <;> (try (cases hd; done))
      all_goals first
        | exact absurd rfl h1
        | exact absurd rfl h2
        | exact absurd rfl h3
        | exact absurd rfl (h4 _)
        | exact absurd rfl (h5 _ _)
        | skip
      all_goals injection hd with hd
      all_goals rw [← hd]
      all_goals first
        | rfl
        | (rename_i hfn _ _
           rcases fnOf_spec hfn with ⟨g, rfl⟩ | ⟨g, rfl⟩ <;> rfl)
    split at h
    · cases h
    · cases h
    · cases h
    · cases h
    · cases h
    · rename_i r n1 n2 n3 n4 n5
      exact key h (fun e => n1 (by rw [h, e])) (fun e => n2 (by rw [h, e])) (fun e => n3 (by rw [h, e])) (fun v e => n4 v (by rw [h, e])) (fun v t e => n5 v t (by rw [h, e]))
  case binOp op t x y t2 =>
    split at h
    · rename_i p q hp hq
      split at h
      · rename_i u hu
        injection h with h
        subst h
        exact fin (binS_rel hu (hF.evA hp) (hF.evA hq) x y w) (by unfold execOp; rw [hop]; rfl)
      · exact fin (eqlA_rel h (hF.evA hp) (hF.evA hq) w) (by unfold execOp; rw [hop]; rfl)
    · cases h
  case unOp op t x =>
    split at h
    · rename_i p hp
      exact fin (unA_rel h (hF.evA hp) w) (by unfold execOp; rw [hop]; rfl)
    · cases h
  case convert src dst x =>
    have run_ : ∀ {d1 d2 : TypeDesc} {V : Value}, P.underlying src = some d1 → P.underlying dst = some d2 → (∀ (f : TypeDesc → TypeDesc → Sem Value), (Sem.bind (underlying src) fun a => Sem.bind (underlying dst) fun b => f a b).run P w = (f d1 d2).run P w) := fun h1 h2 f => by
      rw [run_bind, run_underlying h1]
      simp only []
      rw [run_bind, run_underlying h2]
    split at h
    · rename_i k n hx
      have hd := hF.evA hx
      simp only [den, Option.some.injEq] at hd
      split at h
      · rename_i d1 k' h1 h2
        injection h with h
        subst h
        refine fin (x := convert src dst (a.eval x)) ⟨_, rfl, ?_⟩ (by unfold execOp; rw [hop]; rfl)
        rw [← hd]
        refine (run_ h1 h2 (V := .bool true) _).trans ?_
        rfl
      · cases h
    · rename_i b hx
      have hd := hF.evA hx
      simp only [den, Option.some.injEq] at hd
      split at h
      · rename_i d1 h1 h2
        injection h with h
        subst h
        refine fin (x := convert src dst (a.eval x)) ⟨_, rfl, ?_⟩ (by unfold execOp; rw [hop]; rfl)
        rw [← hd]
        refine (run_ h1 h2 (V := .bool true) _).trans ?_
        rfl
      · cases h
    · rename_i k u hx
      obtain ⟨n, hn, hd⟩ := sym_den (hF.evA hx)
      split at h
      · rename_i d1 k' h1 h2
        injection h with h
        subst h
        refine fin (x := convert src dst (a.eval x)) ⟨.int k' (k'.wrap n), by simp only [den, denT, hn], ?_⟩ (by unfold execOp; rw [hop]; rfl)
        rw [hd]
        refine (run_ h1 h2 (V := .bool true) _).trans ?_
        rfl
      · cases h
    · split at h
      · rename_i hsl _
        simp only [worldless, hsl] at hwl
        cases hwl
      · cases h
    · cases h
  case makeInterface t x =>
    cases hu : P.underlying t with
    | none => simp [hu] at h
    | some d =>
      cases hp : evA T x with
      | none => rw [hu, hp] at h; cases d <;> cases h
      | some p =>
        rw [hu, hp] at h
        have hv : v = .iface t p := by cases d <;> first | (cases h; done) | (injection h with h; exact h.symm)
        subst hv
        refine fin (x := Instr.makeInterface t (a.eval x)) ⟨.iface t (a.eval x), by simp only [den, hF.evA hp], ?_⟩ (by unfold execOp; rw [hop]; rfl)
        unfold Instr.makeInterface
        simp only [bind]
        rw [run_bind, run_underlying hu]
        cases d <;> first | (cases h; done) | rfl
  case makeFunc fn first cap =>
    split at h
    · rename_i f p q hp hq
      injection h with h
      subst h
      refine ⟨.func (.func f) (first.map a.eval) (cap.map a.eval), ?_, by unfold execOp; rw [hop]; rfl⟩
      simp only [den, fnOf, list_den hF hp, list_den hF hq]
      have e : ∀ x : Array Operand, (x.toList.map a.eval).toArray = x.map a.eval := fun x => Array.ext' (by simp)
      rw [e, e]
    · cases h
  case slice t x lo hi mx =>
    split at h
    · rename_i p l hh m hp hl hhi hm
      refine fin (x := Instr.sliceAt t (a.eval x) (lo.map a.eval) (hi.map a.eval) (mx.map a.eval)) (run_slice (hF.evA hp) (opt_den hF hl) (opt_den hF hhi) (opt_den hF hm) h) (by unfold execOp; rw [hop]; rfl)
    · cases h
  case fieldAddr st x f =>
    split at h
    · rename_i fields i off hu hp
      split at h
      · rename_i fd hf
        split at h
        · cases h
        · rename_i n hne hs
          injection h with h
          subst h
          obtain ⟨g, hg, e⟩ := ptr_den (hF.evA hp)
          cases n with
          | zero => exact absurd rfl hne
          | succ n =>
            refine fin (x := Instr.fieldAt st (a.eval x) f) ⟨.pointer (some ⟨g, off + fd.offset, none⟩), by simp only [den, hg], ?_⟩ (by unfold execOp; rw [hop]; rfl)
            rw [e]
            exact run_fieldAt hu hf hs w
        · cases h
      · cases h
    · rename_i fields g off hu hp
      have e := hF.evA hp
      simp only [den, Option.some.injEq] at e
      split at h
      · rename_i fd hf
        split at h
        · cases h
        · rename_i n hne hs
          injection h with h
          subst h
          cases n with
          | zero => exact absurd rfl hne
          | succ n =>
            refine fin (x := Instr.fieldAt st (a.eval x) f) ⟨.pointer (some ⟨g, off + fd.offset, none⟩), by simp only [den], ?_⟩ (by unfold execOp; rw [hop]; rfl)
            rw [← e]
            exact run_fieldAt hu hf hs w
        · cases h
      · cases h
    · cases h
  case field st x f =>
    split at h
    · rename_i fields cs hu hp
      split at h
      · rename_i fd hf
        obtain ⟨L, hL, e⟩ := agg_den (hF.evA hp)
        obtain ⟨V, h1, h2⟩ := run_part (P := P) (w := w) hL h
        refine fin (x := Instr.field st (a.eval x) f) ⟨V, h1, ?_⟩ (by unfold execOp; rw [hop]; rfl)
        rw [e]
        unfold Instr.field
        simp only [bind]
        rw [run_bind, run_underlying hu]
        simp only [hf]
        exact h2
      · cases h
    · cases h
  case indexAddr t x ix =>
    split at h
    · rename_i n e b off j hu hp hj
      obtain ⟨u, hu1, hu2⟩ := bind_natOf hj
      obtain ⟨k, rfl⟩ := natOf_spec hu2
      have hi := hF.evA hu1
      simp only [den, Option.some.injEq] at hi
      obtain ⟨g, hg, eg⟩ := ptr_den (hF.evA hp)
      split at h
      · rename_i z hle hz
        injection h with h
        subst h
        refine fin (x := Instr.indexAt t (a.eval x) (a.eval ix)) ⟨.pointer (some ⟨g, off + j * z, none⟩), by simp only [den, hg], ?_⟩ (by unfold execOp; rw [hop]; rfl)
        rw [eg, ← hi]
        exact indexAt_array hu (Nat.le_of_ble_eq_true hle) hz w
      · cases h
    · rename_i n e g off j hu hp hj
      obtain ⟨u, hu1, hu2⟩ := bind_natOf hj
      obtain ⟨k, rfl⟩ := natOf_spec hu2
      have hi := hF.evA hu1
      simp only [den, Option.some.injEq] at hi
      have eg := hF.evA hp
      simp only [den, Option.some.injEq] at eg
      split at h
      · rename_i z hle hz
        injection h with h
        subst h
        refine fin (x := Instr.indexAt t (a.eval x) (a.eval ix)) ⟨.pointer (some ⟨g, off + j * z, none⟩), by simp only [den], ?_⟩ (by unfold execOp; rw [hop]; rfl)
        rw [← eg, ← hi]
        exact indexAt_array hu (Nat.le_of_ble_eq_true hle) hz w
      · cases h
    · rename_i e b off n c j hu hp hj
      obtain ⟨u, hu1, hu2⟩ := bind_natOf hj
      obtain ⟨k, rfl⟩ := natOf_spec hu2
      have hi := hF.evA hu1
      simp only [den, Option.some.injEq] at hi
      obtain ⟨g, C, hg, hC, hle', eg⟩ := slice_den (hF.evA hp)
      split at h
      · rename_i z hle hz
        injection h with h
        subst h
        refine fin (x := Instr.indexAt t (a.eval x) (a.eval ix)) ⟨.pointer (some ⟨g, off + j * z, none⟩), by simp only [den, hg], ?_⟩ (by unfold execOp; rw [hop]; rfl)
        rw [eg, ← hi]
        exact indexAt_slice hu (Nat.le_of_ble_eq_true hle) hz w
      · cases h
    · cases h
  case index t x ix =>
    split at h
    · rename_i n e cs j hu hp hj
      obtain ⟨u, hu1, hu2⟩ := bind_natOf hj
      obtain ⟨k, rfl⟩ := natOf_spec hu2
      have hi := hF.evA hu1
      simp only [den, Option.some.injEq] at hi
      obtain ⟨L, hL, eg⟩ := agg_den (hF.evA hp)
      split at h
      · rename_i z hle hz
        obtain ⟨V, h1, h2⟩ := run_part (P := P) (w := w) hL h
        refine fin (x := Instr.index t (a.eval x) (a.eval ix)) ⟨V, h1, ?_⟩ (by unfold execOp; rw [hop]; rfl)
        rw [eg, ← hi]
        unfold Instr.index
        simp only [asIntOf, bind, pure, Sem.bind]
        rw [run_bind, run_underlying hu]
        have h0 : (0 : Int) ≤ Int.ofNat j ∧ Int.ofNat j < (n : Int) := ⟨Int.natCast_nonneg j, Int.ofNat_lt.2 (Nat.le_of_ble_eq_true hle)⟩
        simp only [h0, and_self, if_true]
        rw [run_bind, run_sizeT hz]
        exact h2
      · cases h
    · rename_i b j hu hp hj
      obtain ⟨u, hu1, hu2⟩ := bind_natOf hj
      obtain ⟨k, rfl⟩ := natOf_spec hu2
      have hi := hF.evA hu1
      have hs := hF.evA hp
      simp only [den, Option.some.injEq] at hi hs
      split at h
      · rename_i c hc
        injection h with h
        subst h
        refine fin (x := Instr.index t (a.eval x) (a.eval ix)) ⟨_, rfl, ?_⟩ (by unfold execOp; rw [hop]; rfl)
        rw [← hs, ← hi]
        unfold Instr.index
        simp only [asIntOf, bind, pure, Sem.bind]
        rw [run_bind, run_underlying hu]
        have h0 : (0 : Int) ≤ Int.ofNat j := Int.natCast_nonneg j
        have hb : (ByteArray.mk b.toArray)[j]? = some c := by
          have hlt : j < b.length := (List.getElem?_eq_some_iff.1 hc).1
          have hlt' : j < (ByteArray.mk b.toArray).size := hlt
          rw [getElem?_pos _ j hlt']
          have := (List.getElem?_eq_some_iff.1 hc).2
          congr 1
        simp only [h0, if_true, Int.ofNat_eq_natCast, Int.toNat_natCast, hb]
        rfl
      · cases h
    · cases h
  case lookup => cases hwl
  case extract x i =>
    split at h
    · rename_i l hp
      obtain ⟨L, hL, e⟩ := tup_den (hF.evA hp)
      obtain ⟨V, h1, h2⟩ := denL_get hL h
      refine fin (x := Instr.extract (a.eval x) i) ⟨V, h2, ?_⟩ (by unfold execOp; rw [hop]; rfl)
      rw [e]
      unfold Instr.extract
      simp only [List.getElem?_toArray, h1]
      rfl
    · cases h
  case entry => cases hwl
  case typeAssert x t1 t ok =>
    cases hu : P.underlying t with
    | none => simp [hu] at h
    | some d =>
      cases hp : evA T x with
      | none => rw [hu, hp] at h; cases d <;> cases h
      | some p =>
        rw [hu, hp] at h
        cases p <;> (try (cases d <;> cases h; done))
        rename_i t' u
        have hk : (match Nat.beq t' t with | true => some (if ok = true then AV.tup [u, .bool true] else u) | false => none) = some v ∧ ∀ ms, d ≠ .interface ms := by cases d <;> first | (cases h; done) | exact ⟨h, fun _ e => by cases e⟩
        obtain ⟨h2, hni⟩ := hk
        clear h
        cases ht : Nat.beq t' t with
        | false => rw [ht] at h2; cases h2
        | true =>
          rw [ht] at h2
          have ht := Nat.eq_of_beq_eq_true ht
          subst ht
          have h : (if ok = true then AV.tup [u, .bool true] else u) = v := Option.some.inj h2
          subst h
          have hd := hF.evA hp
          simp only [den] at hd
          cases hU : den ν u with
          | none => rw [hU] at hd; cases hd
          | some U =>
            rw [hU] at hd
            injection hd with hd
            refine fin (x := Instr.typeAssert (a.eval x) t1 t' ok) ⟨if ok then .tuple #[U, .bool true] else U, ?_, ?_⟩ (by unfold execOp; rw [hop]; rfl)
            · cases ok with
              | true => simp [den, denL, hU]
              | false => exact hU
            · rw [← hd]
              unfold Instr.typeAssert
              simp only [bind]
              rw [run_bind, run_underlying hu]
              cases d <;> first | (exact absurd rfl (hni _)) | (simp only [if_true]; rfl)
  case call c =>
    split at h
    · rename_i hc
      split at h
      · rename_i x t hx ht
        split at h
        · rename_i d u hu hp
          have hnm : ∀ k e, d ≠ .map k e := fun k e hd => by
            subst hd
            simp only [worldless, hc, ht, hu] at hwl
            cases hwl
          have hat : ∃ rest, c.argTypes = (t :: rest).toArray := by
            cases hL : c.argTypes.toList with
            | nil => rw [← Array.getElem?_toList, hL] at ht; cases ht
            | cons t' rest =>
              rw [← Array.getElem?_toList, hL] at ht
              injection ht with ht
              subst ht
              exact ⟨rest, arr_of hL⟩
          obtain ⟨rest, hat⟩ := hat
          obtain ⟨V, h1, h2⟩ := run_len (P := P) (w0 := w) (A := ⟨.e, ⟨fun _ => none, fun _ => none, 0, fun _ => none⟩, w⟩) (w := w) (ty := o.type) hu h (hF.evA hp) (.inl hnm) rest
          refine ⟨V, h1, ?_⟩
          rw [run_builtin hop hc, hat, arr_of hx]
          simp only [List.map_toArray, List.map_cons, List.map_nil]
          exact run_val h2
        · cases h
      · cases h
    · rename_i hc
      split at h
      · rename_i x y hx
        split at h
        · rename_i k p k' q hp hq
          injection h with h
          subst h
          have d1 := hF.evA hp
          have d2 := hF.evA hq
          simp only [den, Option.some.injEq] at d1 d2
          refine ⟨_, rfl, ?_⟩
          rw [run_builtin hop hc, arr_of hx]
          simp only [List.map_toArray, List.map_cons, List.map_nil, ← d1, ← d2]
          rfl
        · cases h
      · cases h
    · rename_i hc
      split at h
      · rename_i x y hx
        split at h
        · rename_i k p k' q hp hq
          injection h with h
          subst h
          have d1 := hF.evA hp
          have d2 := hF.evA hq
          simp only [den, Option.some.injEq] at d1 d2
          refine ⟨_, rfl, ?_⟩
          rw [run_builtin hop hc, arr_of hx]
          simp only [List.map_toArray, List.map_cons, List.map_nil, ← d1, ← d2]
          rfl
        · cases h
      · cases h
    · cases h
end
end Go.Proofs.YtcjbpaiomcfgnaaGreatDoor
namespace Go.Proofs.YtcjbpaiomcfgnaaGreatDoor
open Go Go.RowKit
def repV (l : List Value) : Nat → List Value
 | 0 => []
 | n + 1 => l ++ repV l n
theorem repV_get (l : List Value) : ∀ (n i : Nat), (repV l n)[i]? = if i < n * l.length then l[i % l.length]? else none
 | 0, i => by simp [repV]
 | n + 1, i => by
  simp only [repV]
  by_cases h : i < l.length
  ·rw [List.getElem?_append_left h, Nat.mod_eq_of_lt h, if_pos (by rw [Nat.add_mul]; omega)]
  ·rw [List.getElem?_append_right (by omega), repV_get l n]
   have e : (i - l.length) % l.length = i % l.length := by
    rw [Nat.mod_eq_sub_mod (a := i) (by omega)]
   rw [e]
   by_cases h2 : i < (n + 1) * l.length
   ·rw [if_pos h2, if_pos (by rw [Nat.add_mul] at h2; omega)]
   ·rw [if_neg h2, if_neg (by rw [Nat.add_mul] at h2; omega)]
theorem zeros_eq (z : Array Value) (n : Nat) : ((Array.range (n * z.size)).map fun i => z[i % z.size]!).toList = repV z.toList n := by
 apply List.ext_getElem?
 intro i
 rw [repV_get, Array.toList_map, List.getElem?_map, Array.toList_range]
 simp only [Array.length_toList]
 by_cases h : i < n * z.size
 ·rw [if_pos h, List.getElem?_range h]
  have hz : 0 < z.size := by
   rcases Nat.eq_zero_or_pos z.size with h0 | h0
   ·rw [h0] at h; simp at h
   ·exact h0
  have hm := Nat.mod_lt i hz
  simp [hm]
 ·rw [if_neg h, List.getElem?_eq_none (by simpa using h)]
  rfl
section
variable {P : Program} {w0 w : World} {A : Anch} {ν : Nm} {s : St} {T : Tr AV} {N : Nat} {a : Act}
theorem repL_den {l : List AV} {L : List Value} (h : denL ν l = some L) : ∀ n, denL ν (repL l n) = some (repV L n)
 | 0 => rfl
 | n + 1 => denL_append h (repL_den h n)
theorem zero_cells {z : AV} {Z : Value} (hZ : den ν z = some Z) (h1 : (cellsA z).all oneA = true) {n : Nat} (hn : (cellsA z).length = n) : denL ν (cellsA z) = some Z.cells.toList ∧ Z.cells.size = n := by
 have := cells_den hZ h1
 exact ⟨this, by have := denL_len this; simp at this; omega⟩
theorem wrap_small {n : Nat} (h : n ≤ most) : IntKind.i64.wrap (Int.ofNat n) = (n : Int) := by
 unfold most at h
 exact IntWalk.i64_in (n : Int) ⟨by omega, by omega⟩
theorem repV_nil : ∀ n, repV [] n = []
 | 0 => rfl
 | n + 1 => by simpa [repV] using repV_nil n
def OpOkN (P : Program) (w0 : World) (A : Anch) (ν : Nm) (s' : St) (v : AV) (r : Result Next) : Prop := ∃ ν' V w', Nm.le ν ν' ∧ WRel P w0 A ν' s' w' ∧ den ν' v = some V ∧ (r = .ok (.value V) w' ∨ (r = .ok .skip w' ∧ V = undef))
theorem OpOk.n {s' : St} {v : AV} {x : Sem Value} (h : OpOk P w0 A ν s' v (x.run P w)) : OpOkN P w0 A ν s' v ((Sem.bind x fun v => Sem.pure (Next.value v)).run P w) := by
 obtain ⟨ν', V, w', h1, h2, h3, h4⟩ := h
 exact ⟨ν', V, w', h1, h2, h3, .inl (run_val h4)⟩
theorem OpOk.u {s' : St} {x : Sem Unit} (h : ∃ w', WRel P w0 A ν s' w' ∧ x.run P w = .ok () w') : OpOkN P w0 A ν s' undA ((Sem.bind x fun _ => Sem.pure Next.skip).run P w) := by
 obtain ⟨w', h1, h2⟩ := h
 exact ⟨ν, undef, w', Nm.le.refl _, h1, rfl, .inr ⟨run_unit h2, rfl⟩⟩
theorem run_zero_all {t : TypeId} {z : AV} (h : zeroA P t = some z) : ∃ Z, den ν z = some Z ∧ ∀ w, (zeroValue t).run P w = .ok Z w := by
 obtain ⟨i, Z, hi, hz, hd⟩ := zeroA_spec (ν := ν) h
 refine ⟨Z, hd, fun w => ?_⟩
 show (Sem.bind (typeInfo t) _).run P w = _
 rw [run_bind, run_info hi]
 simp only [hz]
 rfl
def Makes (P : Program) (ν : Nm) (obj : AObj) (f : Nat → AV) (x : World → Result Next) : Prop := ∃ (OBJ : Obj) (Vf : Nat → Value), (∀ ν', Nm.le ν ν' → ORel P ν' obj OBJ) ∧ (∀ (ν' : Nm) k g, ν' k = some g → den ν' (f k) = some (Vf g)) ∧ ∀ w, x w = .ok (.value (Vf w.heap.size)) (w.alloc OBJ)
theorem makes_cells {l : List AV} {L : List Value} {t : TypeId} {f : Nat → AV} {Vf : Nat → Value} (hl : denL ν l = some L) (hv : ∀ (ν' : Nm) k g, ν' k = some g → den ν' (f k) = some (Vf g)) {x : Sem Value} (hx : ∀ w, x.run P w = .ok (Vf w.heap.size) (w.alloc (.cells L.toArray t))) :
  Makes P ν (.cells l t none) f fun w => (Sem.bind x fun v => Sem.pure (Next.value v)).run P w :=
 ⟨.cells L.toArray t, Vf, fun ν' hν => ⟨rfl, noFz0 _, L, [], denL_mono hν _ _ hl, by simp, rfl⟩, hv, fun w => run_val (hx w)⟩
theorem mk_one {l : List AV} {t : TypeId} {f : Nat → AV} {r : AObj × (Nat → AV)} (h : (match l.all oneA with | true => some (AObj.cells l t none, f) | false => none) = some r) : l.all oneA = true ∧ r = (.cells l t none, f) := by
 split at h
 ·rename_i h1
  injection h with h
  exact ⟨h1, h.symm⟩
 ·cases h
theorem allocA_rel {o : Oper} (hF : FRel ν T N a.tmps) {obj : AObj} {f : Nat → AV} (hm : allocA P T o.op = some (obj, f)) : Makes P ν obj f fun w => (execOp a.eval o).run P w := by
 have as : ∀ {x : Sem Value}, (Makes P ν obj f fun w => (Sem.bind x fun v => Sem.pure (Next.value v)).run P w) → (execOp a.eval o = Sem.bind x fun v => Sem.pure (Next.value v)) → Makes P ν obj f fun w => (execOp a.eval o).run P w := fun hx e => by rw [e]; exact hx
 cases hop : o.op <;> rw [hop] at hm <;> simp only [allocA] at hm <;> (try (cases hm; done))
 case alloc t =>
  split at hm
  ·rename_i z hz
   obtain ⟨Z, hZ, rz⟩ := run_zero_all (P := P) (ν := ν) hz
   obtain ⟨h1, e⟩ := mk_one hm
   simp only [Prod.mk.injEq] at e
   obtain ⟨rfl, rfl⟩ := e
   refine as (x := Instr.alloc t true (.tuple #[])) (makes_cells (cells_den hZ h1) (Vf := fun g => .pointer (some ⟨g, 0, none⟩)) (fun ν' k g hν => by simp only [den, hν]) fun w => ?_) (by unfold execOp; rw [hop]; rfl)
   unfold Instr.alloc
   simp only [bind]
   rw [run_bind, rz]
   simp only []
   rfl
  ·cases hm
 case box t x =>
  split at hm
  ·rename_i u hu
   obtain ⟨h1, e⟩ := mk_one hm
   simp only [Prod.mk.injEq] at e
   obtain ⟨rfl, rfl⟩ := e
   exact as (x := Instr.box t (a.eval x)) (makes_cells (cells_den (hF.evA hu) h1) (Vf := fun g => .pointer (some ⟨g, 0, none⟩)) (fun ν' k g hν => by simp only [den, hν]) fun w => rfl) (by unfold execOp; rw [hop]; rfl)
  ·cases hm
 case buildSlice t len parts =>
  split at hm
  ·rename_i e ps hu hps
   split at hm
   ·rename_i z n hz hn
    split at hm
    ·rename_i hc
     simp only [Bool.and_eq_true] at hc
     obtain ⟨⟨c1, c2⟩, c3⟩ := hc
     have c1 := Nat.le_of_ble_eq_true c1
     have c2 := Nat.eq_of_beq_eq_true c2
     split at hm
     ·rename_i l hl
      obtain ⟨Z, hZ, rz⟩ := run_zero_all (P := P) (ν := ν) hz
      obtain ⟨z1, z2⟩ := zero_cells hZ c3 c2
      have hcells : ((Array.range (len * n)).map fun i => (if len * n = 0 then #[] else Z.cells)[i % (if len * n = 0 then (#[] : Array Value) else Z.cells).size]!).toList = repV Z.cells.toList len := by
       by_cases h0 : len * n = 0
       ·rw [if_pos h0]
        have : repV Z.cells.toList len = [] := by
         rcases Nat.mul_eq_zero.1 h0 with h1 | h1
         ·rw [h1]; rfl
         ·have : Z.cells.toList = [] := List.eq_nil_of_length_eq_zero (by simpa [h1] using z2)
          rw [this]
          exact repV_nil _
        rw [this, h0]
        simp
       ·rw [if_neg h0]
        have := zeros_eq Z.cells len
        rw [z2] at this
        rw [z2]
        exact this
      have hp := parts_den hF hps
      obtain ⟨arr', f1, f2⟩ := run_fill (ν := ν) (pl := fun i => some (i * n, n)) (arr := (Array.range (len * n)).map fun i => (if len * n = 0 then #[] else Z.cells)[i % (if len * n = 0 then (#[] : Array Value) else Z.cells).size]!) hp (by rw [hcells]; exact repL_den z1 len) hl
      obtain ⟨_, eq⟩ := mk_one hm
      simp only [Prod.mk.injEq] at eq
      obtain ⟨rfl, rfl⟩ := eq
      refine as (x := Instr.buildSlice t len (parts.map fun (i, x) => (i, a.eval x))) (makes_cells f2 (Vf := fun g => .slice (some ⟨g, 0, none⟩) len len) (fun ν' k g hν => by simp only [den, hν, capOf]; rw [if_pos (Nat.le_refl _)]) fun w => ?_) (by unfold execOp; rw [hop]; rfl)
      unfold Instr.buildSlice
      simp only [bind]
      rw [run_bind, run_underlying hu]
      simp only []
      rw [run_bind, run_sizeT hn]
      simp only []
      have hbig : ¬ (len * n > 2 ^ 24) := by unfold most at c1; omega
      rw [if_neg hbig]
      have e1 : (parts.map fun p : Nat × Operand => (p.1, a.eval p.2)).toList = parts.toList.map fun p => (p.1, a.eval p.2) := by simp
      rw [← e1] at f1
      by_cases h0 : len * n = 0
      ·rw [if_pos h0, run_bind]
       rw [if_pos h0] at f1
       show (match Instr.fill (fun i => some (i * n, n)) ((Array.range (len * n)).map fun i => (#[] : Array Value)[i % (#[] : Array Value).size]!) (parts.map fun p : Nat × Operand => (p.1, a.eval p.2)).toList with | some cells => _ | _ => _ : Sem Value).run P w = _
       rw [f1]
       rfl
      ·rw [if_neg h0, run_bind, rz]
       rw [if_neg h0] at f1
       simp only []
       rw [run_bind]
       show (match Instr.fill (fun i => some (i * n, n)) ((Array.range (len * n)).map fun i => Z.cells[i % Z.cells.size]!) (parts.map fun p : Nat × Operand => (p.1, a.eval p.2)).toList with | some cells => _ | _ => _ : Sem Value).run P w = _
       rw [f1]
       rfl
     ·cases hm
    ·cases hm
   ·cases hm
  ·cases hm
 case makeMap t r =>
  have mk_ : ∀ {x : Sem Value}, obj = .map [] 0 → (f = fun i => .map i) → (∀ w, x.run P w = .ok (.map (some w.heap.size)) (w.alloc (.map #[] 0))) → Makes P ν obj f fun w => (Sem.bind x fun v => Sem.pure (Next.value v)).run P w := fun e1 e2 hx => by
   subst e1 e2
   exact ⟨.map #[] 0, fun g => .map (some g), fun ν' _ => ⟨rfl, trivial⟩, fun ν' k g hν => by simp only [den, hν], fun w => run_val (hx w)⟩
  split at hm
  ·simp only [Option.some.injEq, Prod.mk.injEq] at hm
   exact as (x := Instr.makeMap t none) (mk_ hm.1.symm hm.2.symm fun w => rfl) (by unfold execOp; rw [hop]; rfl)
  ·rename_i x
   split at hm
   ·rename_i kt e k n hu hp
    simp only [Option.some.injEq, Prod.mk.injEq] at hm
    have hd := hF.evA hp
    simp only [den, Option.some.injEq] at hd
    refine as (x := Instr.makeMap t (some (a.eval x))) (mk_ hm.1.symm hm.2.symm fun w => ?_) (by unfold execOp; rw [hop]; rfl)
    unfold Instr.makeMap
    simp only [bind, ← hd]
    rw [run_bind, run_underlying hu]
    rfl
   ·cases hm
 case makeSlice t l c =>
  split at hm
  ·rename_i e nl nc hu hl hcp
   obtain ⟨u1, hu1, hn1⟩ := bind_natOf hl
   obtain ⟨k1, rfl⟩ := natOf_spec hn1
   obtain ⟨u2, hu2, hn2⟩ := bind_natOf hcp
   obtain ⟨k2, rfl⟩ := natOf_spec hn2
   have d1 := hF.evA hu1
   have d2 := hF.evA hu2
   simp only [den, Option.some.injEq] at d1 d2
   split at hm
   ·rename_i z inf hz hi
    split at hm
    ·rename_i hc
     simp only [Bool.and_eq_true] at hc
     obtain ⟨⟨⟨⟨c1, c2⟩, c3⟩, c4⟩, c5⟩ := hc
     have c1 := Nat.le_of_ble_eq_true c1
     have c2 := Nat.le_of_ble_eq_true c2
     have c3 := Nat.le_of_ble_eq_true c3
     have c4 := Nat.eq_of_beq_eq_true c4
     obtain ⟨Z, hZ, rz⟩ := run_zero_all (P := P) (ν := ν) hz
     obtain ⟨z1, z2⟩ := zero_cells hZ c5 c4
     have hsz : sizeT P e = some inf.size := by unfold sizeT; rw [hi]
     have w1 := wrap_small (Nat.le_trans c1 c2)
     have w2 := wrap_small c2
     have hcells : ∀ z0 : Array Value, z0 = (if nc * inf.size = 0 then #[] else Z.cells) → ((Array.range (nc * inf.size)).map fun i => z0[i % z0.size]!).toList = repV Z.cells.toList nc := fun z0 hz0 => by
      subst hz0
      by_cases h0 : nc * inf.size = 0
      ·rw [if_pos h0]
       have : repV Z.cells.toList nc = [] := by
        rcases Nat.mul_eq_zero.1 h0 with h1 | h1
        ·rw [h1]; rfl
        ·have : Z.cells.toList = [] := List.eq_nil_of_length_eq_zero (by simpa [h1] using z2)
         rw [this]
         exact repV_nil _
       rw [this, h0]
       simp
      ·rw [if_neg h0]
       have := zeros_eq Z.cells nc
       rw [z2] at this
       rw [z2]
       exact this
     obtain ⟨_, eq⟩ := mk_one hm
     simp only [Prod.mk.injEq] at eq
     obtain ⟨rfl, rfl⟩ := eq
     refine as (x := Instr.makeSlice t (a.eval l) (a.eval c)) (makes_cells (repL_den z1 nc) (Vf := fun g => .slice (some ⟨g, 0, none⟩) nl nc) (fun ν' k g hν => by simp only [den, hν, capOf]; rw [if_pos c1]) fun w => ?_) (by unfold execOp; rw [hop]; rfl)
     rw [← d1, ← d2]
     unfold Instr.makeSlice
     simp only [bind, asInt, asIntOf, pure, Sem.bind]
     rw [run_bind, run_underlying hu]
     simp only [Sem.bind]
     rw [run_bind, run_info hi]
     simp only [w1, w2]
     have hbytes : nc * inf.bytes ≤ most * most := Nat.mul_le_mul c2 c3
     have hbytes1 : inf.bytes * nl ≤ most * most := by rw [Nat.mul_comm]; exact Nat.mul_le_mul (Nat.le_trans c1 c2) c3
     unfold most at hbytes hbytes1
     have hcond : (decide ((nc : Int) < 0) || decide ((inf.bytes : Int) * (nc : Int) > 2 ^ 48) || decide ((nl : Int) < 0) || decide ((nl : Int) > (nc : Int))) = false := by
      have hb2 : (inf.bytes : Int) * (nc : Int) ≤ 1000000000000 := by
       have h1 : nc * inf.bytes ≤ 1000000000000 := hbytes
       have h2 := Int.ofNat_le.2 h1
       rw [Int.natCast_mul, Int.mul_comm] at h2
       exact h2
      have p48 : (2 : Int) ^ 48 = 281474976710656 := by rfl
      rw [decide_eq_false (by omega : ¬ (nc : Int) < 0), decide_eq_false (by rw [p48]; omega : ¬ (inf.bytes : Int) * (nc : Int) > 2 ^ 48), decide_eq_false (by omega : ¬ (nl : Int) < 0), decide_eq_false (by omega : ¬ (nl : Int) > (nc : Int))]
      rfl
     rw [hcond]
     simp only [Bool.false_eq_true, if_false, Int.toNat_natCast]
     have hroom : (askRoom (nc * inf.bytes)).run P w = .ok () w := by
      unfold askRoom
      split <;> rfl
     rw [run_bind, hroom]
     simp only []
     rw [run_bind, run_sizeT hsz]
     simp only []
     by_cases h0 : nc * inf.size = 0
     ·rw [if_pos h0]
      have hc0 := hcells #[] (by rw [if_pos h0])
      show Result.ok (Value.slice (some ⟨w.heap.size, 0, none⟩) nl nc) (w.alloc (.cells _ e)) = _
      rw [← hc0]
     ·rw [if_neg h0, run_bind, rz]
      simp only []
      have hc0 := hcells Z.cells (by rw [if_neg h0])
      show Result.ok (Value.slice (some ⟨w.heap.size, 0, none⟩) nl nc) (w.alloc (.cells _ e)) = _
      rw [← hc0]
    ·cases hm
   ·cases hm
  ·cases hm
theorem clearS_rel (h : WRel P w0 A ν s w) {t ty : TypeId} {x : AV} {X : Value} {s' : St} (hc : clearS P s t x = some s') (hx : den ν x = some X) : OpOk P w0 A ν s' undA ((Builtin.clear_ #[t] ty #[X]).run P w) := by
 unfold clearS at hc
 split at hc
 ·cases hc
 ·rename_i d ht
  split at hc
  ·injection hc with hc
   subst hc
   simp only [den, Option.some.injEq] at hx
   subst hx
   refine ⟨ν, .tuple #[], w, Nm.le.refl _, h, rfl, ?_⟩
   unfold Builtin.clear_
   simp only [List.getElem?_toArray, List.getElem?_cons_zero, bind]
   rw [run_bind, run_underlying ht]
   rfl
  ·injection hc with hc
   subst hc
   simp only [den, Option.some.injEq] at hx
   subst hx
   refine ⟨ν, .tuple #[], w, Nm.le.refl _, h, rfl, ?_⟩
   unfold Builtin.clear_
   simp only [List.getElem?_toArray, List.getElem?_cons_zero, bind]
   rw [run_bind, run_underlying ht]
   rfl
  ·rename_i i off len c
   obtain ⟨g, n, hg, hcap, hlen, rfl⟩ := slice_den hx
   split at hc
   ·rename_i hl
    injection hc with hc
    subst hc
    have hl := Nat.eq_of_beq_eq_true hl
    subst hl
    refine ⟨ν, .tuple #[], w, Nm.le.refl _, h, rfl, ?_⟩
    unfold Builtin.clear_
    simp only [List.getElem?_toArray, List.getElem?_cons_zero, bind]
    rw [run_bind, run_underlying ht]
    rfl
   ·rename_i hl
    split at hc
    ·rename_i e
     split at hc
     ·rename_i z hz
      split at hc
      ·rename_i h1
       obtain ⟨Z, hZ, hrun⟩ := run_zero_all (ν := ν) hz
       obtain ⟨k1, _⟩ := zero_cells hZ h1 rfl
       obtain ⟨m1, m2, _⟩ := putCells_rel h hc hg (repL_den k1 len)
       refine ⟨ν, .tuple #[], _, Nm.le.refl _, m1, rfl, ?_⟩
       cases len with
       | zero => simp [Nat.beq_refl] at hl
       | succ len =>
        unfold Builtin.clear_
        simp only [List.getElem?_toArray, List.getElem?_cons_zero, bind]
        rw [run_bind, run_underlying ht]
        simp only []
        rw [run_bind, hrun w]
        simp only []
        rw [show (Builtin.zeroCells Z.cells (len + 1)).toList = repV Z.cells.toList (len + 1) from zeros_eq _ _, run_bind, m2]
        rfl
      ·cases hc
     ·cases hc
    ·cases hc
  ·rename_i i
   obtain ⟨g, hg, rfl⟩ := map_den hx
   split at hc
   ·rename_i es c hi
    injection hc with hc
    subst hc
    obtain ⟨arr, ho, harr⟩ := h.map_ hi hg
    refine ⟨ν, .tuple #[], w.putObj g (.map #[] c), Nm.le.refl _, h.write hi hg (show ORel P ν (.map [] c) (.map #[] c) from ⟨rfl, trivial⟩) (Upd.obj _ (h.lt hi hg)) (fun _ hx => List.mem_cons_of_mem _ hx) (fun _ _ => List.mem_cons_self ..), rfl, ?_⟩
    unfold Builtin.clear_
    simp only [List.getElem?_toArray, List.getElem?_cons_zero, bind]
    rw [run_bind, run_underlying ht]
    simp only []
    rw [run_bind, run_getObj ho (by simp)]
    simp only []
    have hs : (setObj g (.map #[] c)).run P w = .ok () (w.putObj g (.map #[] c)) := by simp [setObj, Sem.run, ho, World.putObj]
    rw [run_bind, hs]
    rfl
   ·cases hc
  ·cases hc
theorem freeze_alloc (v : World) (c : Array Value) (e n : Nat) : (v.alloc (.cells c e)).freeze ⟨v.heap.size, n, none⟩ 1 = v.alloc (.cells c e (n, n + 1)) := by
 unfold World.freeze
 rw [if_neg (by decide)]
 unfold World.alloc
 congr 1
 refine Array.ext (by simp) fun i h1 h2 => ?_
 simp only [Array.size_modify, Array.size_push] at h1
 rw [Array.getElem_modify]
 by_cases hi : i = v.heap.size
 ·subst hi
  simp
 ·have hlt : i < v.heap.size := by omega
  rw [if_neg (fun e => hi e.symm), Array.getElem_push_lt hlt, Array.getElem_push_lt hlt]
theorem bytesWorld_eq (w : World) (e : TypeId) (b : ByteArray) : Lib.bytesWorld w e b = w.drew.alloc (.cells (Lib.bytesCells w e b) e ((Lib.bytesCells w e b).size, (Lib.bytesCells w e b).size + 1)) := freeze_alloc w.drew _ _ _
theorem bytesA_rel (h : WRel P w0 A ν s w) {src dst : TypeId} {x v : AV} {X : Value} {s' : St} (hb : bytesA P s src dst x = some (v, s')) (hx : den ν x = some X) : OpOk P w0 A ν s' v ((convert src dst X).run P w) := by
 unfold bytesA at hb
 split at hb
 ·rename_i e b hs hd
  split at hb
  ·rename_i inf he hi
   split at hb
   ·rename_i h1
    have h1 := Nat.eq_of_beq_eq_true h1
    simp only [Option.some.injEq, Prod.mk.injEq] at hb
    obtain ⟨rfl, rfl⟩ := hb
    simp only [den, Option.some.injEq] at hx
    subst hx
    have hr := Lib.run_convert_string_bytes (P := P) w src dst e ⟨b.toArray⟩ hs hd he
    rw [bytesWorld_eq] at hr
    have hsz : (ByteArray.mk b.toArray).size = b.length := by simp [ByteArray.size]
    rw [hsz] at hr
    have hge := grownCap_ge w b.length 0 e
    have hk1 := h.top (s.n + 1) (by omega)
    have hd' := (h.drew).name (k := s.n + 1) (n' := s.n + 2) hk1 (by omega) (by omega) (grownCap w b.length 0 e)
    have hk0 : (ν.set (s.n + 1) (grownCap w b.length 0 e)) s.n = none := by
     simp only [Nm.set]
     rw [if_neg (by omega)]
     exact h.top _ (Nat.le_refl _)
    have hle1 := Nm.le_set hk1 (grownCap w b.length 0 e)
    have hle2 := Nm.le_set hk0 w.heap.size
    have hcap : (Nm.set (ν.set (s.n + 1) (grownCap w b.length 0 e)) s.n w.heap.size) (s.n + 1) = some (grownCap w b.length 0 e) := hle2 _ _ (Nm.set_same _ _ _)
    have hbs : ∀ b : List UInt8, denL ν (b.map fun c => AV.int .u8 c.toNat) = some (b.map fun c => Value.int .u8 c.toNat) := fun b => by
     induction b with
     | nil => rfl
     | cons c b ih => exact denL_mk rfl ih
    have hcells : Lib.bytesCells w e ⟨b.toArray⟩ = (b.map fun c => Value.int .u8 c.toNat).toArray ++ Array.replicate (grownCap w b.length 0 e - b.length) (.int .u8 0) := by
     simp [Lib.bytesCells, hsz]
    have hcs : (Lib.bytesCells w e ⟨b.toArray⟩).size = grownCap w b.length 0 e := by
     rw [hcells]
     simp
     omega
    have hw := hd'.alloc (k := s.n) (n' := s.n + 2) (o := .cells (b.map fun c => .int .u8 c.toNat) e (some (s.n + 1))) (obj := .cells (Lib.bytesCells w e ⟨b.toArray⟩) e ((Lib.bytesCells w e ⟨b.toArray⟩).size, (Lib.bytesCells w e ⟨b.toArray⟩).size + 1)) hk0 (by simp) (by omega)
     ⟨rfl, fun i hi hh => (by simp only at hh; omega), b.map fun c => Value.int .u8 c.toNat, List.replicate (grownCap w b.length 0 e - b.length) (.int .u8 0), denL_mono hle2 _ _ (denL_mono hle1 _ _ (hbs b)), by rw [hcells]; simp, grownCap w b.length 0 e, inf, hcap, hi, by rw [hcs, h1, Nat.mul_one]⟩
    refine ⟨_, .slice (some ⟨w.heap.size, 0, none⟩) b.length (grownCap w b.length 0 e), _, hle1.trans hle2, hw, ?_, hr⟩
    simp only [den, capOf, hcap, Nm.set_same]
    rw [if_pos (Nat.zero_le _)]
    simp only [Nat.sub_zero]
    rw [if_pos hge]
   ·cases hb
  ·cases hb
 ·cases hb
theorem run_shape {g t : Nat} {arr : Array Value} {fz : Nat × Nat} (hg : w.heap[g]? = some (.cells arr t fz)) : (shape g).run P w = .ok (some (t, arr.size)) w := by
 show Result.ok (w.shape? g) w = _
 unfold World.shape?
 rw [hg]
theorem run_viewAt {g t : Nat} {arr : Array Value} {fz : Nat × Nat} (hg : w.heap[g]? = some (.cells arr t fz)) : (viewAt g).run P w = .ok none w := by
 unfold viewAt
 simp only [bind]
 rw [run_bind, run_shape hg]
 rfl
theorem run_cellsIn {g t : Nat} {arr : Array Value} {fz : Nat × Nat} (hg : w.heap[g]? = some (.cells arr t fz)) : (cellsIn g).run P w = .ok (some arr.size) w := by
 unfold cellsIn
 simp only [bind]
 rw [run_bind, run_shape hg]
 rfl
theorem run_seenAt {g off t : Nat} {arr : Array Value} {fz : Nat × Nat} (hg : w.heap[g]? = some (.cells arr t fz)) : (Conv.seenAt ⟨g, off, none⟩).run P w = .ok ⟨g, off, none⟩ w := by
 unfold Conv.seenAt
 simp only [bind]
 rw [run_bind, run_viewAt hg]
 rfl
theorem run_variablesAt {g off u n t : Nat} {arr : Array Value} {fz : Nat × Nat} (hg : w.heap[g]? = some (.cells arr t fz)) : (variablesAt ⟨g, off, none⟩ u n).run P w = .ok (liesAt P P.depth t (arr.size / P.cellsOf t) off u n) w := by
 unfold variablesAt
 simp only [bind, program, Sem.bind, Sem.run]
 rw [run_bind, run_shape hg]
 rfl
theorem unsafeA_rel (h : WRel P w0 A ν s w) {src dst : TypeId} {x v : AV} {X : Value} (hu : unsafeA P s src dst x = some v) (hx : den ν x = some X) : ∃ V, den ν v = some V ∧ (convert src dst X).run P w = .ok V w := by
 have two : ∀ {d1 d2 : TypeDesc} {f : TypeDesc → TypeDesc → Sem Value} {r : Result Value}, P.underlying src = some d1 → P.underlying dst = some d2 → (f d1 d2).run P w = r → (Sem.bind (underlying src) fun a => Sem.bind (underlying dst) fun b => f a b).run P w = r := fun h1 h2 h3 => by
  rw [run_bind, run_underlying h1]
  simp only []
  rw [run_bind, run_underlying h2]
  exact h3
 unfold unsafeA at hu
 split at hu
 ·rename_i e hs hd
  injection hu with hu
  subst hu
  simp only [den, Option.some.injEq] at hx
  subst hx
  refine ⟨_, rfl, two hs hd ?_⟩
  exact two hs hd rfl
 ·rename_i t i off hs hd
  split at hu
  ·rename_i sz l tc c hsz hi
   split at hu
   ·rename_i hlt
    have hlt := Nat.le_of_ble_eq_true hlt
    injection hu with hu
    subst hu
    obtain ⟨g, hg, rfl⟩ := ptr_den hx
    obtain ⟨L, R, hL, ⟨fz, hb, _⟩, _⟩ := h.blk hi hg
    have hlen := denL_len hL
    obtain ⟨inf, hinf, hsz'⟩ := sizeT_spec hsz
    refine ⟨_, hx, two hs hd ?_⟩
    refine two hs hd ?_
    simp only [bind]
    rw [run_bind, run_seenAt hb]
    simp only []
    rw [run_bind, run_cellsIn hb]
    simp only []
    rw [run_bind, run_sizeOf hinf]
    simp only []
    rw [if_neg ?_]
    ·rfl
    ·have : ¬ (L ++ R).toArray.size ≤ off := by simp; omega
     simp only [Bool.or_eq_true, Bool.and_eq_true, decide_eq_true_eq, ge_iff_le]
     rintro (h1 | ⟨h1, _⟩)
     ·omega
     ·exact this h1
   ·cases hu
  ·cases hu
 ·rename_i e hs hd
  injection hu with hu
  subst hu
  simp only [den, Option.some.injEq] at hx
  subst hx
  refine ⟨_, rfl, two hs hd ?_⟩
  exact two hs hd rfl
 ·rename_i u i off hs hd
  split at hu
  ·rename_i sz l e hsz hi
   split at hu
   ·rename_i hl
    injection hu with hu
    subst hu
    obtain ⟨g, hg, rfl⟩ := ptr_den hx
    obtain ⟨L, R, hL, ⟨fz, hb, _⟩, hR⟩ := h.blk hi hg
    have hlen := denL_len hL
    simp only at hR
    subst hR
    obtain ⟨inf, hinf, hsz'⟩ := sizeT_spec hsz
    refine ⟨_, hx, two hs hd ?_⟩
    refine two hs hd ?_
    simp only [bind]
    rw [run_bind, run_seenAt hb]
    simp only []
    rw [run_bind, run_sizeOf hinf]
    simp only []
    rw [run_bind, run_variablesAt hb]
    simp only []
    have : liesAt P P.depth e ((L ++ []).toArray.size / P.cellsOf e) off u 1 = true := by rw [← hl]; simp [hlen]
    rw [this, if_pos (by simp)]
    rfl
   ·cases hu
  ·cases hu
 ·cases hu
theorem capA_rel {t ty : TypeId} {x v : AV} {X : Value} (hc : capA P t x = some v) (hx : den ν x = some X) (rest : List TypeId) : ∃ V, den ν v = some V ∧ (Builtin.cap_ (t :: rest).toArray ty #[X]).run P w = .ok V w := by
 unfold capA at hc
 split at hc
 ·rename_i e ht
  injection hc with hc
  subst hc
  simp only [den, Option.some.injEq] at hx
  subst hx
  refine ⟨_, rfl, ?_⟩
  unfold Builtin.cap_
  simp only [bind]
  show (Sem.bind (underlying t) _).run P w = _
  rw [run_bind, run_underlying ht]
  rfl
 ·rename_i e i off n c ht
  injection hc with hc
  subst hc
  obtain ⟨g, C, hg, hC, hle, rfl⟩ := slice_den hx
  simp only [capOf, Option.some.injEq] at hC
  subst hC
  refine ⟨_, rfl, ?_⟩
  unfold Builtin.cap_
  simp only [bind]
  show (Sem.bind (underlying t) _).run P w = _
  rw [run_bind, run_underlying ht]
  rfl
 ·cases hc
theorem sliceDataA_rel {ty : TypeId} {x v : AV} {X : Value} (hc : sliceDataA x = some v) (hx : den ν x = some X) (ts : Array TypeId) : ∃ V, den ν v = some V ∧ (Builtin.unsafeSliceData_ ts ty #[X]).run P w = .ok V w := by
 unfold sliceDataA at hc
 split at hc
 ·injection hc with hc
  subst hc
  simp only [den, Option.some.injEq] at hx
  subst hx
  exact ⟨_, rfl, rfl⟩
 ·rename_i i off n c
  injection hc with hc
  subst hc
  obtain ⟨g, C, hg, hC, hle, rfl⟩ := slice_den hx
  refine ⟨.pointer (some ⟨g, off, none⟩), by simp only [den, hg], ?_⟩
  show Sem.run P (ite (C ≠ 0) (Sem.pure (Value.pointer (some ⟨g, off, none⟩))) _) w = _
  rw [if_pos (by omega)]
  rfl
 ·cases hc
theorem run_loadBytes {g : Nat} : ∀ (cs : List AV) (bs : List UInt8) (CS : List Value) (off : Nat) (acc : ByteArray), bytesOf cs = some bs → denL ν cs = some CS → (∀ j u, CS[j]? = some u → w.cell? ⟨g, off + j, none⟩ = some u) →
  (loadBytes ⟨g, off, none⟩ acc bs.length).run P w = .ok ⟨(acc.data.toList ++ bs).toArray⟩ w
 | [], bs, CS, off, acc, h, _, _ => by
  simp only [bytesOf, mapO, Option.some.injEq] at h
  subst h
  simp [loadBytes, pure, Sem.run]
 | c :: cs, bs, CS, off, acc, h, hd, hc => by
  unfold bytesOf at h
  simp only [mapO] at h
  split at h
  ·cases h
  ·rename_i y hy
   split at h
   ·cases h
   ·rename_i r hr
    injection h with h
    subst h
    obtain ⟨V, R, v1, v2, rfl⟩ := denL_cons hd
    split at hy
    ·rename_i n
     injection hy with hy
     subst hy
     simp only [den, Option.some.injEq] at v1
     subst v1
     have h0 := hc 0 _ rfl
     simp only [Nat.add_zero] at h0
     show (loadBytes ⟨g, off, none⟩ acc (r.length + 1)).run P w = _
     unfold loadBytes
     simp only [bind]
     unfold load
     simp only [Sem.bind]
     rw [run_load_one h0, addr_add]
     have := run_loadBytes cs r R (off + 1) (acc.push (UInt8.ofNat n)) hr v2 fun j u hj => by
      rw [show off + 1 + j = off + (j + 1) by omega]
      exact hc (j + 1) u (by simpa using hj)
     show (loadBytes ⟨g, off + 1, none⟩ (acc.push (UInt8.ofNat n)) r.length).run P w = _
     rw [this]
     simp [ByteArray.push]
    ·cases hy
theorem lies_row {e b count off n : Nat} (hd : 1 ≤ P.depth) (hs : P.cellsOf e = 1) (hf : sameLayout P P.depth e b = true) (hc : off + n ≤ count) : liesAt P P.depth e count off b n = true := by
 cases hdp : P.depth with
 | zero => omega
 | succ d =>
  unfold liesAt
  rw [Bool.or_eq_true]
  left
  unfold rowAt
  simp only [hdp, hs]
  rw [if_neg (by simp)]
  rw [hdp] at hf
  simp [hf, hc, Nat.mod_one]
theorem bytesOf_len {cs : List AV} {bs : List UInt8} (h : bytesOf cs = some bs) : bs.length = cs.length := by
 induction cs generalizing bs with
 | nil => simp only [bytesOf, mapO, Option.some.injEq] at h; subst h; rfl
 | cons c cs ih =>
  unfold bytesOf at h
  simp only [mapO] at h
  split at h
  ·cases h
  ·split at h
   ·cases h
   ·rename_i r hr
    injection h with h
    subst h
    simp [ih hr]
theorem unsafeStrA_rel (h : WRel P w0 A ν s w) {pt ty : TypeId} {x y v : AV} {X Y : Value} {s' : St} (hc : unsafeStrA P s pt x y = some (v, s')) (hx : den ν x = some X) (hy : den ν y = some Y) (rest : List TypeId) : OpOk P w0 A ν s' v ((Builtin.unsafeString_ (pt :: rest).toArray ty #[X, Y]).run P w) := by
 have zero : ∀ {p : Option Addr} {k : IntKind}, X = .pointer p → Y = .int k 0 → (Builtin.unsafeString_ (pt :: rest).toArray ty #[X, Y]).run P w = .ok (.string ⟨#[]⟩) w := fun {p k} e1 e2 => by
  subst e1 e2
  unfold Builtin.unsafeString_
  cases p <;> rfl
 have nat : ∀ {n : Nat}, natOf y = some n → ∃ k, Y = .int k (.ofNat n) := fun {n} hn => by
  obtain ⟨k, rfl⟩ := natOf_spec hn
  simp only [den, Option.some.injEq] at hy
  exact ⟨k, hy.symm⟩
 unfold unsafeStrA at hc
 split at hc
 ·rename_i hn
  simp only [Option.some.injEq, Prod.mk.injEq] at hc
  obtain ⟨rfl, rfl⟩ := hc
  obtain ⟨k, hk⟩ := nat hn
  simp only [den, Option.some.injEq] at hx
  exact ⟨ν, _, w, Nm.le.refl _, h, rfl, zero hx.symm hk⟩
 ·rename_i i off hn
  simp only [Option.some.injEq, Prod.mk.injEq] at hc
  obtain ⟨rfl, rfl⟩ := hc
  obtain ⟨k, hk⟩ := nat hn
  obtain ⟨g, hg, e⟩ := ptr_den hx
  exact ⟨ν, _, w, Nm.le.refl _, h, rfl, zero e hk⟩
 ·rename_i i off n hn
  split at hc
  ·rename_i b l e c hpt hi
   split at hc
   ·rename_i inf cs hinf hsl hcut
    split at hc
    ·rename_i bs hcond hbs
     simp only [Bool.and_eq_true] at hcond
     obtain ⟨⟨c1, c2⟩, c3⟩ := hcond
     have c1 := Nat.eq_of_beq_eq_true c1
     have c2 := Nat.le_of_ble_eq_true c2
     have c3 := Nat.le_of_ble_eq_true c3
     simp only [Option.some.injEq, Prod.mk.injEq] at hc
     obtain ⟨rfl, rfl⟩ := hc
     obtain ⟨k, rfl⟩ := nat hn
     obtain ⟨g, hg, rfl⟩ := ptr_den hx
     obtain ⟨L, R, hL, ⟨fz, hb, hnf⟩, _⟩ := h.blk hi hg
     obtain ⟨hd, hlen⟩ := denL_cut hL hcut
     have hbl := bytesOf_len hbs
     obtain ⟨_, hcl⟩ := cutL_spec hcut
     have hn0 : n + 1 ≠ 0 := by omega
     have hfit : off + (n + 1) ≤ L.length := by simp at hlen; omega
     have hs1 : P.cellsOf e = 1 := by simp [Program.cellsOf, hinf, c1]
     have hcells : ∀ j u, ((L.drop off).take (n + 1))[j]? = some u → w.cell? ⟨g, off + j, none⟩ = some u := fun j u hj => by
      have hcell := cell_of_row w g (off + j) (L ++ R).toArray e fz hb
      rw [hcell]
      rw [List.getElem?_take] at hj
      split at hj
      ·rw [List.getElem?_drop] at hj
       simp only [List.getElem?_toArray]
       rw [List.getElem?_append_left (List.getElem?_eq_some_iff.1 hj).1]
       exact hj
      ·cases hj
     have hld := run_loadBytes (P := P) (w := w) (g := g) cs bs _ off ByteArray.empty hbs hd hcells
     rw [hbl, hcl] at hld
     have hel : (elemOf pt).run P w = .ok b w := by
      unfold elemOf
      simp only [bind]
      rw [run_bind, run_underlying hpt]
      rfl
     have hlies : liesAt P P.depth e ((L ++ R).toArray.size / P.cellsOf e) off b (n + 1) = true := by
      refine lies_row c2 hs1 hsl ?_
      rw [hs1, Nat.div_one]
      simp
      omega
     have hrun : (Builtin.unsafeString_ (pt :: rest).toArray ty #[.pointer (some ⟨g, off, none⟩), .int k (.ofNat (n + 1))]).run P w = .ok (.string ⟨bs.toArray⟩) (w.freeze ⟨g, off, none⟩ (n + 1)) := by
      have h0 : ¬ ((Int.ofNat (n + 1)) < 0) := by simp; omega
      have h1 : ¬ ((Int.ofNat (n + 1)) > IntKind.i64.max) := by
       have : IntKind.i64.max = 9223372036854775807 := by decide
       unfold most at c3
       rw [this]
       simp
       omega
      have h2 : ¬ ((Int.ofNat (n + 1)) = 0) := by simp; omega
      show Sem.run P (ite ((Int.ofNat (n + 1)) > IntKind.i64.max) _ _) w = _
      rw [if_neg h1]
      show (Sem.bind (elemOf pt) _).run P w = _
      rw [run_bind, hel]
      show (Sem.bind (variablesAt ⟨g, off, none⟩ b (n + 1)) _).run P w = _
      rw [run_bind, run_variablesAt hb, hlies]
      show Sem.run P (ite (true = true) _ _) w = _
      rw [if_pos rfl]
      show (Sem.bind (loadBytes ⟨g, off, none⟩ .empty (n + 1)) _).run P w = _
      rw [run_bind, hld]
      rfl
     obtain ⟨g', obj', q1, q2, q3, q4⟩ := h.objs i _ hi
     rw [hg] at q1
     injection q1 with q1
     subst q1
     have hupd : ∃ fz', Upd w g (.cells (L ++ R).toArray e fz') (w.freeze ⟨g, off, none⟩ (n + 1)) := by
      unfold World.freeze
      rw [if_neg hn0]
      obtain ⟨lo, up⟩ := fz
      refine ⟨if lo == up then (off, off + (n + 1)) else (min lo off, max up (off + (n + 1))), rfl, rfl, rfl, by simp, ?_, fun k hk => ?_⟩
      ·simp only [Array.getElem?_modify, if_true, hb, Option.map_some]
      ·simp only [Array.getElem?_modify]
       rw [if_neg (Ne.symm hk)]
     obtain ⟨fz', hupd⟩ := hupd
     have hno : ∀ j o, (killO s i).h.get j = some o → ν j ≠ some g := fun j o hj e => by
      simp only [killO] at hj
      rw [Tr.get_put] at hj
      split at hj
      ·cases hj
      ·rename_i hne
       exact hne (h.inj j i o _ hj hi (by rw [e, hg]))
     exact ⟨ν, _, _, Nm.le.refl _, (h.kill i).raw hno (h.nofrz hi hg) q2 (h.own i _ hi g hg) hupd, rfl, hrun⟩
    ·cases hc
   ·cases hc
  ·cases hc
 ·cases hc
theorem memA_rel {o : Oper} (h : WRel P w0 A ν s w) (hF : FRel ν T N a.tmps) {v : AV} {s' : St} (hm : memA P s T o.op = some (v, s')) : OpOkN P w0 A ν s' v ((execOp a.eval o).run P w) := by
 have as : ∀ {x : Sem Value}, OpOk P w0 A ν s' v (x.run P w) → (execOp a.eval o = Sem.bind x fun v => Sem.pure (Next.value v)) → OpOkN P w0 A ν s' v ((execOp a.eval o).run P w) := fun hx e => by rw [e]; exact hx.n
 cases hop : o.op <;> rw [hop] at hm <;> simp only [memA] at hm <;> (try (cases hm; done))
 case store t x y =>
  split at hm
  ·rename_i i off u hp hu
   rw [Option.map_eq_some_iff] at hm
   obtain ⟨s2, hs, he⟩ := hm
   simp only [Prod.mk.injEq] at he
   obtain ⟨rfl, rfl⟩ := he
   obtain ⟨g, hg, e⟩ := ptr_den (hF.evA hp)
   obtain ⟨w', r1, r2⟩ := storeA_rel (P := P) h hs hg (hF.evA hu)
   have : execOp a.eval o = Sem.bind (Instr.storeAt t (a.eval x) (a.eval y)) fun _ => Sem.pure Next.skip := by unfold execOp; rw [hop]; rfl
   rw [this]
   refine OpOk.u ⟨w', r1, ?_⟩
   rw [e]
   exact r2
  ·cases hm
 case convert src dst x =>
  split at hm
  ·rename_i u hu
   split at hm
   ·rename_i r hr
    injection hm with hm
    subst hm
    exact as (bytesA_rel h hr (hF.evA hu)) (by unfold execOp; rw [hop]; rfl)
   ·rw [Option.map_eq_some_iff] at hm
    obtain ⟨v', hv', he⟩ := hm
    simp only [Prod.mk.injEq] at he
    obtain ⟨rfl, rfl⟩ := he
    obtain ⟨V, h1, h2⟩ := unsafeA_rel h hv' (hF.evA hu)
    exact as (x := convert src dst (a.eval x)) ⟨ν, V, w, Nm.le.refl _, h, h1, h2⟩ (by unfold execOp; rw [hop]; rfl)
  ·cases hm
 case insert t m k v' =>
  split at hm
  ·rename_i p q r hp hq hr
   rw [Option.map_eq_some_iff] at hm
   obtain ⟨s2, hs, he⟩ := hm
   simp only [Prod.mk.injEq] at he
   obtain ⟨rfl, rfl⟩ := he
   have : execOp a.eval o = Sem.bind (Instr.mapUpdate t (a.eval m) (a.eval k) (a.eval v')) fun _ => Sem.pure Next.skip := by unfold execOp; rw [hop]; rfl
   rw [this]
   exact OpOk.u (updateA_rel h hs (hF.evA hp) (hF.evA hq) (hF.evA hr))
  ·cases hm
 case mapUpdate t m k v' =>
  split at hm
  ·rename_i p q r hp hq hr
   rw [Option.map_eq_some_iff] at hm
   obtain ⟨s2, hs, he⟩ := hm
   simp only [Prod.mk.injEq] at he
   obtain ⟨rfl, rfl⟩ := he
   have : execOp a.eval o = Sem.bind (Instr.mapUpdate t (a.eval m) (a.eval k) (a.eval v')) fun _ => Sem.pure Next.skip := by unfold execOp; rw [hop]; rfl
   rw [this]
   exact OpOk.u (updateA_rel h hs (hF.evA hp) (hF.evA hq) (hF.evA hr))
  ·cases hm
 case mapEntry t m k =>
  split at hm
  ·rename_i p q hp hq
   exact as (entryA_rel h hm (hF.evA hp) (hF.evA hq)) (by unfold execOp; rw [hop]; rfl)
  ·cases hm
 case entryStore t m b v' =>
  split at hm
  ·rename_i p q r hp hq hr
   rw [Option.map_eq_some_iff] at hm
   obtain ⟨s2, hs, he⟩ := hm
   simp only [Prod.mk.injEq] at he
   obtain ⟨rfl, rfl⟩ := he
   have : execOp a.eval o = Sem.bind (Instr.entryStore t (a.eval m) (a.eval b) (a.eval v')) fun _ => Sem.pure Next.skip := by unfold execOp; rw [hop]; rfl
   rw [this]
   exact OpOk.u (entryStoreA_rel h hs (hF.evA hp) (hF.evA hq) (hF.evA hr))
  ·cases hm
 case range t x =>
  split at hm
  ·rename_i u hu
   exact as (rangeA_rel h hm (hF.evA hu)) (by unfold execOp; rw [hop]; rfl)
  ·cases hm
 case call c =>
  split at hm
  ·rename_i hc
   split at hm
   ·rename_i x y t tx hx ht
    split at hm
    ·rename_i p q hp hq
     have := appendA_rel (P := P) (ty := o.type) h hm (hF.evA hp) (hF.evA hq)
     rw [run_builtin hop hc, arr_of hx, arr_of ht]
     simp only [List.map_toArray, List.map_cons, List.map_nil]
     exact this.n
    ·cases hm
   ·cases hm
  ·rename_i hc
   split at hm
   ·rename_i x y t tx hx ht
    split at hm
    ·rename_i p q hp hq
     have := copyA_rel (P := P) (tx := tx) (ty := o.type) h hm (hF.evA hp) (hF.evA hq)
     rw [run_builtin hop hc, arr_of hx, arr_of ht]
     simp only [List.map_toArray, List.map_cons, List.map_nil]
     exact this.n
    ·cases hm
   ·cases hm
  ·rename_i hc
   split at hm
   ·rename_i x y t tx hx ht
    split at hm
    ·rename_i p q hp hq
     rw [Option.map_eq_some_iff] at hm
     obtain ⟨s2, hs, he⟩ := hm
     simp only [Prod.mk.injEq] at he
     obtain ⟨rfl, rfl⟩ := he
     have := deleteA_rel (P := P) (tx := tx) (ty := o.type) h hs (hF.evA hp) (hF.evA hq)
     rw [run_builtin hop hc, arr_of hx, arr_of ht]
     simp only [List.map_toArray, List.map_cons, List.map_nil]
     exact this.n
    ·cases hm
   ·cases hm
  ·rename_i hc
   split at hm
   ·rename_i x t hx ht
    split at hm
    ·rename_i p hp
     rw [Option.map_eq_some_iff] at hm
     obtain ⟨s2, hs, he⟩ := hm
     simp only [Prod.mk.injEq] at he
     obtain ⟨rfl, rfl⟩ := he
     have := clearS_rel (P := P) (ty := o.type) h hs (hF.evA hp)
     rw [run_builtin hop hc, arr_of hx, arr_of ht]
     simp only [List.map_toArray, List.map_cons, List.map_nil]
     exact this.n
    ·cases hm
   ·cases hm
  ·rename_i hc
   split at hm
   ·rename_i x t hx ht
    split at hm
    ·rename_i p hp
     rw [Option.map_eq_some_iff] at hm
     obtain ⟨v', hs, he⟩ := hm
     simp only [Prod.mk.injEq] at he
     obtain ⟨rfl, rfl⟩ := he
     obtain ⟨V, h1, h2⟩ := capA_rel (P := P) (w := w) (ty := o.type) hs (hF.evA hp) []
     rw [run_builtin hop hc, arr_of hx, arr_of ht]
     simp only [List.map_toArray, List.map_cons, List.map_nil]
     exact OpOk.n (x := Builtin.cap_ [t].toArray o.type #[a.eval x]) ⟨ν, V, w, Nm.le.refl _, h, h1, h2⟩
    ·cases hm
   ·cases hm
  ·rename_i hc
   split at hm
   ·rename_i x hx
    split at hm
    ·rename_i p hp
     rw [Option.map_eq_some_iff] at hm
     obtain ⟨v', hs, he⟩ := hm
     simp only [Prod.mk.injEq] at he
     obtain ⟨rfl, rfl⟩ := he
     obtain ⟨V, h1, h2⟩ := sliceDataA_rel (P := P) (w := w) (ty := o.type) hs (hF.evA hp) c.argTypes
     rw [run_builtin hop hc, arr_of hx]
     simp only [List.map_toArray, List.map_cons, List.map_nil]
     exact OpOk.n (x := Builtin.unsafeSliceData_ c.argTypes o.type #[a.eval x]) ⟨ν, V, w, Nm.le.refl _, h, h1, h2⟩
    ·cases hm
   ·cases hm
  ·rename_i hc
   split at hm
   ·rename_i x y t tx hx ht
    split at hm
    ·rename_i p q hp hq
     have := unsafeStrA_rel (P := P) (ty := o.type) h hm (hF.evA hp) (hF.evA hq) [tx]
     rw [run_builtin hop hc, arr_of hx, arr_of ht]
     simp only [List.map_toArray, List.map_cons, List.map_nil]
     exact OpOk.n (x := Builtin.unsafeString_ [t, tx].toArray o.type #[a.eval x, a.eval y]) this
    ·cases hm
   ·cases hm
  ·cases hm
end
end Go.Proofs.YtcjbpaiomcfgnaaGreatDoor
namespace Go.Proofs.YtcjbpaiomcfgnaaGreatDoor
open Go Go.RowKit
theorem GlobOk.keep {ν : Nm} {gl : List (Nat × List AV)} {w w' : World} (h : GlobOk ν gl w) (hk : ∀ g, g < w.heap.size → w'.heap[g]? = w.heap[g]?) : GlobOk ν gl w' := fun g l hg i v hv => by
 obtain ⟨V, h1, h2⟩ := h g l hg i v hv
 have hlt := World.block_lt_of_cell? w _ h2
 exact ⟨V, h1, by rw [World.cell?_of_block (w := w) (hk g hlt)]; exact h2⟩
theorem WRel.glob {P : Program} {w0 w : World} {A : Anch} {ν : Nm} {s : St} (h : WRel P w0 A ν s w) : GlobOk ν s.x.gl w := h.ctx.gl.keep fun g hg => h.keep.block g hg (by simp)
structure RRel (P : Program) (ν : Nm) (s : St) (D : Nat → Prop) (w : World) : Prop where
 f : ∀ i o, D i → s.h.get i = some o → ∃ g obj, ν i = some g ∧ w.heap[g]? = some obj ∧ ORel P ν o obj
 g : (∀ i, D i) → GlobOk ν s.x.gl w
theorem WRel.rrel {P : Program} {w0 w : World} {A : Anch} {ν : Nm} {s : St} (h : WRel P w0 A ν s w) : RRel P ν s (fun _ => True) w := ⟨fun i o _ hi => by
 obtain ⟨g, obj, h1, _, h3, h4⟩ := h.objs i o hi
 exact ⟨g, obj, h1, h3, h4⟩, fun _ => h.glob⟩
theorem findG_mem {g : Nat} : ∀ {gl : List (Nat × List AV)} {l : List AV}, findG g gl = some l → (g, l) ∈ gl
 | [], _, h => by cases h
 | (k, m) :: r, l, h => by
  unfold findG at h
  split at h
  ·rename_i hb
   injection h with h
   subst h
   rw [Nat.eq_of_beq_eq_true hb]
   exact List.mem_cons_self ..
  ·exact List.mem_cons_of_mem _ (findG_mem h)
theorem denL_of {ν : Nm} {w : World} {g : Nat} : ∀ (l : List AV) (k : Nat), (∀ i v, l[i]? = some v → ∃ V, den ν v = some V ∧ w.cell? ⟨g, k + i, none⟩ = some V) → ∃ L, denL ν l = some L ∧ ∀ i V, L[i]? = some V → w.cell? ⟨g, k + i, none⟩ = some V
 | [], k, _ => ⟨[], rfl, fun i V h => by simp at h⟩
 | v :: l, k, h => by
  obtain ⟨V, h1, h2⟩ := h 0 v rfl
  obtain ⟨L, h3, h4⟩ := denL_of l (k + 1) fun i u hu => by
   obtain ⟨U, h5, h6⟩ := h (i + 1) u (by simpa using hu)
   exact ⟨U, h5, by rw [show k + 1 + i = k + (i + 1) by omega]; exact h6⟩
  refine ⟨V :: L, denL_mk h1 h3, fun i U hU => ?_⟩
  cases i with
  | zero => simp at hU; subst hU; exact h2
  | succ i => rw [show k + (i + 1) = k + 1 + i by omega]; exact h4 i U (by simpa using hU)
section
variable {P : Program} {w0 w : World} {A : Anch} {ν : Nm} {s : St} {T : Tr AV} {N : Nat} {a : Act} {D : Nat → Prop}
theorem RRel.at_ (h : RRel P ν s D w) {i g : Nat} {o : AObj} (hD : D i) (hi : s.h.get i = some o) (hg : ν i = some g) : ∃ obj, w.heap[g]? = some obj ∧ ORel P ν o obj := by
 obtain ⟨g', obj, h1, h3, h4⟩ := h.f i o hD hi
 rw [hg] at h1
 injection h1 with h1
 subst h1
 exact ⟨obj, h3, h4⟩
theorem RRel.blk (h : RRel P ν s D w) {i g : Nat} {l : List AV} {t : TypeId} {c : Option Nat} (hD : D i) (hi : s.h.get i = some (.cells l t c)) (hg : ν i = some g) : ∃ L R, denL ν l = some L ∧ Blk w g t (L ++ R).toArray := by
 obtain ⟨obj, h1, h2⟩ := h.at_ hD hi hg
 cases obj <;> simp only [ORel] at h2 <;> try exact h2.elim
 obtain ⟨rfl, hfz, L, R, h3, h4, h5⟩ := h2
 exact ⟨L, R, h3, _, by rw [h1, ← h4], by rw [← h4]; exact hfz⟩
theorem RRel.map_ (h : RRel P ν s D w) {i g : Nat} {es : List (AV × AV × Nat)} {c : Nat} (hD : D i) (hi : s.h.get i = some (.map es c)) (hg : ν i = some g) : ∃ arr, w.heap[g]? = some (.map arr c) ∧ All2 (ERel ν) es arr.toList := by
 obtain ⟨obj, h1, h2⟩ := h.at_ hD hi hg
 cases obj <;> simp only [ORel] at h2 <;> try exact h2.elim
 obtain ⟨rfl, h2⟩ := h2
 exact ⟨_, h1, h2⟩
theorem RRel.iter_ (h : RRel P ν s D w) {i g : Nat} {m : Option Nat} {since stepped : Nat} {seen : List Nat} (hD : D i) (hi : s.h.get i = some (.iter m since seen stepped)) (hg : ν i = some g) : ∃ m' sn, w.heap[g]? = some (.mapIter m' since sn stepped) ∧ optN ν m m' ∧ sn.toList = seen := by
 obtain ⟨obj, h1, h2⟩ := h.at_ hD hi hg
 cases obj <;> simp only [ORel] at h2 <;> try exact h2.elim
 obtain ⟨h3, rfl, h4, rfl⟩ := h2
 exact ⟨_, _, h1, h3, h4⟩
theorem load_R (h : RRel P ν s D w) {t : TypeId} {i off g : Nat} {v : AV} (hD : D i) (hl : loadA P s t i off = some v) (hg : ν i = some g) : ∃ V, den ν v = some V ∧ (loadVar t ⟨g, off, none⟩).run P w = .ok V w := by
 unfold loadA at hl
 split at hl
 ·rename_i l t' c hi
  obtain ⟨L, R, hL, hb⟩ := h.blk hD hi hg
  obtain ⟨V, h1, h2⟩ := partA_load (R := R) hL hl
  exact ⟨V, h1, run_loadVar hb h2⟩
 ·cases hl
theorem loadG_R (h : GlobOk ν s.x.gl w) {t : TypeId} {g off : Nat} {v : AV} (hl : loadG P s t g off = some v) : ∃ V, den ν v = some V ∧ (loadVar t ⟨g, off, none⟩).run P w = .ok V w := by
 unfold loadG at hl
 split at hl
 ·rename_i l hf
  obtain ⟨L, hL, hc⟩ := denL_of l 0 fun i v hv => by
   obtain ⟨V, h1, h2⟩ := h g l (findG_mem hf) i v hv
   exact ⟨V, h1, by rw [Nat.zero_add]; exact h2⟩
  obtain ⟨V, h1, h2⟩ := partA_load (R := []) hL hl
  rw [List.append_nil] at h2
  exact ⟨V, h1, run_loadVar_cells (fun j V hj => by have := hc j V hj; rwa [Nat.zero_add] at this) h2⟩
 ·cases hl
theorem mapOf_R (h : RRel P ν s D w) {m : AV} {M : Value} {es : List (AV × AV × Nat)} {c : Nat} (hD : ∀ i, m = .map i → D i) (hm : den ν m = some M) (ho : mapOf s m = some (es, c)) : ∃ arr : Array MapEntry, All2 (ERel ν) es arr.toList ∧
  ((M = .map none ∧ arr = #[]) ∨ ∃ g, M = .map (some g) ∧ w.heap[g]? = some (.map arr c)) := by
 unfold mapOf at ho
 split at ho
 ·simp only [Option.some.injEq, Prod.mk.injEq] at ho
  simp only [den, Option.some.injEq] at hm
  obtain ⟨rfl, rfl⟩ := ho
  subst hm
  exact ⟨#[], trivial, .inl ⟨rfl, rfl⟩⟩
 ·rename_i i
  split at ho
  ·rename_i es' c' hi
   simp only [Option.some.injEq, Prod.mk.injEq] at ho
   obtain ⟨rfl, rfl⟩ := ho
   obtain ⟨g, hg, rfl⟩ := map_den hm
   obtain ⟨arr, h1, h2⟩ := h.map_ (hD i rfl) hi hg
   exact ⟨arr, h2, .inr ⟨g, rfl, h1⟩⟩
  ·cases ho
 ·cases ho
theorem lookup_R (h : RRel P ν s D w) {t : TypeId} {m k v : AV} {M K : Value} {ok : Bool} (hD : ∀ i, m = .map i → D i) (hl : lookupA P s t m k ok = some v) (hm : den ν m = some M) (hk : den ν k = some K) : ∃ V, den ν v = some V ∧ (Instr.lookup t M K ok).run P w = .ok V w := by
 unfold lookupA at hl
 split at hl
 ·rename_i kt e hu
  split at hl
  ·rename_i es c hf hes
   obtain ⟨arr, harr, hM⟩ := mapOf_R (P := P) h hD hm hes
   have hck := fun b => run_checkKey (P := P) (w := w) (ν := ν) (b := b) (n := 9998) hf hk
   have key : ∀ (F : Array MapEntry → Sem Value), (∀ w', (F arr).run P w' = ((Instr.checkKey arr.isEmpty 10000 kt K).bind fun _ => (Instr.findKey kt K arr.toList).bind fun r =>
     match r with
     | some (_, v) => pure (if ok then .tuple #[v, .bool true] else v)
     | none => (zeroValue e).bind fun z => pure (if ok then .tuple #[z, .bool false] else z)).run P w') → ∃ V, den ν v = some V ∧ (F arr).run P w = .ok V w := fun F hF => by
    rw [hF]
    split at hl
    ·rename_i j v' b hfd
     obtain ⟨R, h1, h2⟩ := run_findKey (P := P) (w := w) hf hk harr hfd
     obtain ⟨me, _, _, rfl, hv, _⟩ := h1
     injection hl with hl
     subst hl
     refine ⟨if ok then .tuple #[me.val, .bool true] else me.val, ?_, ?_⟩
     ·cases ok with
      | true => simp [den, denL, hv]
      | false => exact hv
     ·rw [run_bind, hck]
      simp only []
      rw [run_bind, h2]
      rfl
    ·rename_i hfd
     obtain ⟨R, h1, h2⟩ := run_findKey (P := P) (w := w) hf hk harr hfd
     simp only [FRes] at h1
     subst h1
     split at hl
     ·rename_i z hz
      obtain ⟨Z, hZ, rz⟩ := run_zeroA (P := P) (ν := ν) (w := w) hz
      injection hl with hl
      subst hl
      refine ⟨if ok then .tuple #[Z, .bool false] else Z, ?_, ?_⟩
      ·cases ok with
       | true => simp [den, denL, hZ]
       | false => exact hZ
      ·rw [run_bind, hck]
       simp only []
       rw [run_bind, h2]
       simp only []
       rw [run_bind, rz]
       rfl
     ·cases hl
    ·cases hl
   have body : ∀ (arr : Array MapEntry) (w' : World), ((do
     Instr.checkKey arr.isEmpty 10000 kt K
     let (v, ok') ← match ← Instr.findKey kt K arr.toList with
      | some (_, v) => pure (v, true)
      | none => pure (← zeroValue e, false)
     pure (if ok then .tuple #[v, .bool ok'] else v)) : Sem Value).run P w' = ((Instr.checkKey arr.isEmpty 10000 kt K).bind fun _ => (Instr.findKey kt K arr.toList).bind fun r =>
     match r with
     | some (_, v) => pure (if ok then .tuple #[v, .bool true] else v)
     | none => (zeroValue e).bind fun z => pure (if ok then .tuple #[z, .bool false] else z)).run P w' := fun arr w' => by
    simp only [bind]
    rw [run_bind, run_bind]
    split
    ·rename_i a w'' _
     rw [run_bind, run_bind]
     split
     ·rename_i r w3 _
      cases r with
      | none =>
       simp only [run_bind]
       cases (zeroValue e).run P w3 <;> rfl
      | some p => rfl
     ·rfl
    ·rfl
   rcases hM with ⟨rfl, rfl⟩ | ⟨g, rfl, hg⟩
   ·unfold Instr.lookup
    simp only [bind]
    rw [run_bind, run_underlying hu]
    exact key (fun arr => _) (fun w' => body #[] w')
   ·unfold Instr.lookup
    simp only [bind]
    rw [run_bind, run_underlying hu]
    simp only []
    rw [run_bind, run_getObj hg (by simp)]
    simp only []
    rw [run_bind]
    exact key (fun arr => _) (fun w' => body arr w')
  ·cases hl
 ·cases hl
theorem entry_R (h : RRel P ν s (fun _ => True) w) {it v : AV} {IT : Value} (hn : entryAt s it = some v) (hi : den ν it = some IT) : ∃ V, den ν v = some V ∧ (Instr.entry IT).run P w = .ok V w := by
 unfold entryAt at hn
 split at hn
 ·rename_i i
  obtain ⟨g, hg, rfl⟩ := ptr_den hi
  split at hn
  ·rename_i m since seen stepped hit
   obtain ⟨m', sn, ho, hm, hsn⟩ := h.iter_ trivial hit hg
   obtain ⟨gm, hgm, rfl⟩ := hm
   split at hn
   ·rename_i b es clock hb hmap
    obtain ⟨arr, hom, harr⟩ := h.map_ trivial hmap hgm
    split at hn
    ·rename_i hc
     have hc := Nat.eq_of_beq_eq_true hc
     subst hc
     rw [Option.map_eq_some_iff] at hn
     obtain ⟨⟨k, v'⟩, hf, rfl⟩ := hn
     obtain ⟨me, h1, h2, h3⟩ := findBorn_rel harr hf
     refine ⟨.tuple #[me.key, me.val], by simp [den, denL, h2, h3], ?_⟩
     have hback : sn.back? = some b := by
      rw [lastL_eq, ← hsn, Array.getLast?_toList] at hb
      exact hb
     have hfind : arr.find? (fun e => e.born == b) = some me := by rw [← Array.find?_toList]; exact h1
     unfold Instr.entry
     simp only [bind]
     rw [run_bind, run_getObj ho (by simp)]
     simp only [hback]
     rw [run_bind, run_getObj hom (by simp)]
     simp only [bne_self_eq_false, Bool.false_eq_true, if_false, hfind]
     rfl
    ·cases hn
   ·cases hn
  ·cases hn
 ·cases hn
theorem len_R (h : RRel P ν s D w) {t ty kt e : TypeId} {x v : AV} {X : Value} (hD : ∀ i, x = .map i → D i) (hu : P.underlying t = some (.map kt e)) (hl : lenT P s (.map kt e) x = some v) (hx : den ν x = some X) (rest : List TypeId) :
  ∃ V, den ν v = some V ∧ (Builtin.len_ (t :: rest).toArray ty #[X]).run P w = .ok V w := by
 have start : ∀ {f : TypeDesc → Sem Value} {V : Value}, (f (.map kt e)).run P w = .ok V w → (Sem.bind (underlying t) f).run P w = .ok V w := fun hf => by rw [run_bind, run_underlying hu]; exact hf
 unfold Builtin.len_
 simp only [List.getElem?_toArray, List.getElem?_cons_zero, bind]
 cases x <;> simp only [lenT] at hl <;> (try (cases hl; done))
 ·injection hl with hl
  simp only [den, Option.some.injEq] at hx
  subst hx hl
  exact ⟨_, rfl, start rfl⟩
 ·rename_i i
  obtain ⟨g, hg, rfl⟩ := map_den hx
  split at hl
  ·rename_i es c hi
   injection hl with hl
   subst hl
   obtain ⟨arr, ho, harr⟩ := h.map_ (hD i rfl) hi hg
   refine ⟨_, rfl, start ?_⟩
   simp only []
   rw [run_bind, run_getObj ho (by simp)]
   have := harr.length
   simp only [Array.length_toList] at this
   rw [this]
   rfl
  ·cases hl
theorem bytes_push : ∀ (cs : List AV) (bs : List UInt8) (CS : List Value), bytesOf cs = some bs → denL ν cs = some CS → ∀ (s0 : ByteArray) (w : World),
  Sem.run P (forIn CS s0 fun (c : Value) (s : ByteArray) => match c with
   | Value.int IntKind.u8 n => (pure (ForInStep.yield (s.push (UInt8.ofNat n.toNat))) : Sem (ForInStep ByteArray))
   | _ => (stuck "bytesToString: byte expected").bind fun _ : PUnit => pure (ForInStep.yield s)) w = Result.ok (ByteArray.mk (s0.data.toList ++ bs).toArray) w
 | [], bs, CS, h, hd, s0, w => by
  simp only [bytesOf, mapO, Option.some.injEq] at h
  subst h
  rw [denL_nil hd]
  simp only [List.forIn_nil, List.append_nil]
  rfl
 | c :: cs, bs, CS, h, hd, s0, w => by
  obtain ⟨V, R, v1, v2, rfl⟩ := denL_cons hd
  unfold bytesOf at h
  simp only [mapO] at h
  split at h
  ·cases h
  ·rename_i y hy
   split at h
   ·cases h
   ·rename_i r hr
    injection h with h
    subst h
    split at hy
    ·rename_i n
     injection hy with hy
     subst hy
     simp only [den, Option.some.injEq] at v1
     subst v1
     rw [List.forIn_cons]
     show (Sem.bind _ _).run P w = _
     rw [run_bind]
     have ih := bytes_push cs r R hr v2 (s0.push (UInt8.ofNat n)) w
     simp only [Int.ofNat_eq_natCast, Int.toNat_natCast, pure, Sem.run]
     rw [show (s0.data.toList ++ UInt8.ofNat n :: r) = ((s0.push (UInt8.ofNat n)).data.toList ++ r) by simp [ByteArray.push]]
     exact ih
    ·cases hy
theorem cells_R (h : RRel P ν s D w) {x : AV} {X : Value} {cs : List AV} (hD : ∀ i off n c, x = .slice i off n c → D i) (hx : den ν x = some X) (hc : cellsOfSlice s 1 x = some cs) {bs : List UInt8} (hb : bytesOf cs = some bs) (hns : ∀ b, x ≠ .str b) : (Conv.bytesToString X).run P w = .ok (.string ⟨bs.toArray⟩) w := by
 cases x <;> simp only [cellsOfSlice] at hc <;> try (cases hc; done)
 case nslice =>
  simp only [den, Option.some.injEq] at hx hc
  subst hx hc
  simp only [bytesOf, mapO, Option.some.injEq] at hb
  subst hb
  rfl
 case tail i off o2 len c m0 =>
  simp only [Option.some.injEq] at hc
  subst hc
  simp only [bytesOf, mapO, Option.some.injEq] at hb
  subst hb
  have hX : ∃ a k, X = .slice (some a) 0 k := by
   simp only [den] at hx
   split at hx
   ·split at hx <;> injection hx with hx <;> exact ⟨_, _, hx.symm⟩
   ·cases hx
  obtain ⟨a, k, rfl⟩ := hX
  rfl
 case slice i off len c =>
  obtain ⟨g, C, hg, hC, hle, rfl⟩ := slice_den hx
  split at hc
  ·rename_i l t c' hi
   obtain ⟨L, R, hL, hbk⟩ := h.blk (hD _ _ _ _ rfl) hi hg
   obtain ⟨h1, h2⟩ := denL_cut hL hc
   simp only [Nat.mul_one] at h1 h2
   have hload : (loadCells ⟨g, off, none⟩ len).run P w = .ok (((L.drop off).take len)).toArray w := by
    have := run_firstCells_some (P := P) w 1 len ⟨g, off, none⟩ len C ((L.drop off).take len) (by simpa using h2) (fun j u hj => by
     rw [addr_add, hbk.cell]
     rw [List.getElem?_take] at hj
     split at hj
     ·rw [List.getElem?_drop] at hj
      simp only [List.getElem?_toArray]
      rw [List.getElem?_append_left (List.getElem?_eq_some_iff.1 hj).1]
      exact hj
     ·cases hj)
    simpa [Builtin.firstCells] using this
   unfold Conv.bytesToString
   simp only [bind]
   rw [run_bind, hload]
   simp only []
   rw [run_bind]
   have := bytes_push (P := P) cs bs _ hb h1 ByteArray.empty w
   rw [show (ByteArray.empty.data.toList ++ bs) = bs from rfl] at this
   rw [List.forIn_toArray]
   erw [this]
   rfl
  ·cases hc
 case str b => exact absurd rfl (hns b)
theorem read_R {o : Oper} (hF : FRel ν T N a.tmps) (hk : kindA P o.op = 1) (h : RRel P ν s D w) (hD : (∀ k, targetA T o.op = some k → D k) ∧ (targetA T o.op = none → ∀ i, D i)) {v : AV} (hp : pureA P s T o.op = some v) : ∃ V, den ν v = some V ∧ (execOp a.eval o).run P w = .ok (.value V) w := by
 have fin : ∀ {x : Sem Value}, (∃ V, den ν v = some V ∧ x.run P w = .ok V w) → (execOp a.eval o = Sem.bind x fun v => Sem.pure (Next.value v)) → ∃ V, den ν v = some V ∧ (execOp a.eval o).run P w = .ok (.value V) w := fun ⟨V, h1, h2⟩ e => ⟨V, h1, by rw [e]; exact run_val h2⟩
 obtain ⟨hD1, hD2⟩ := hD
 cases hop : o.op <;> rw [hop] at hp hk hD1 hD2 <;> simp only [kindA] at hk <;> (try (cases hk; done))
 case load t x =>
  simp only [pureA] at hp
  split at hp
  ·rename_i i off hx
   obtain ⟨g, hg, e⟩ := ptr_den (hF.evA hx)
   obtain ⟨V, h1, h2⟩ := load_R h (hD1 i (by simp only [targetA, hx])) hp hg
   refine fin (x := Instr.loadAt t (a.eval x)) ⟨V, h1, ?_⟩ (by unfold execOp; rw [hop]; rfl)
   rw [e]
   exact h2
  ·rename_i g off hx
   have e := hF.evA hx
   simp only [den, Option.some.injEq] at e
   obtain ⟨V, h1, h2⟩ := loadG_R (h.g (hD2 (by simp only [targetA, hx]))) hp
   refine fin (x := Instr.loadAt t (a.eval x)) ⟨V, h1, ?_⟩ (by unfold execOp; rw [hop]; rfl)
   rw [← e]
   exact h2
  ·cases hp
 case lookup t x ix ok =>
  simp only [pureA] at hp
  split at hp
  ·rename_i m k hm hk'
   refine fin (lookup_R h (fun i hi => hD1 i (by subst hi; simp only [targetA, hm])) hp (hF.evA hm) (hF.evA hk')) (by unfold execOp; rw [hop]; rfl)
  ·cases hp
 case entry it =>
  simp only [pureA] at hp
  cases hi : evA T it with
  | none => rw [hi] at hp; cases hp
  | some u =>
   rw [hi] at hp
   have hall : RRel P ν s (fun _ => True) w := ⟨fun i o _ hio => h.f i o (hD2 (by simp only [targetA]) i) hio, fun _ => h.g (hD2 (by simp only [targetA]))⟩
   exact fin (entry_R hall hp (hF.evA hi)) (by unfold execOp; rw [hop]; rfl)
 case convert src dst x =>
  split at hk
  ·rename_i e hsrc
   simp only [pureA] at hp
   split at hp
   ·rename_i k n hx
    rw [hsrc] at hp
    cases hdst : P.underlying dst with
    | none => rw [hdst] at hp; cases hp
    | some d =>
     rw [hdst] at hp
     cases d <;> simp only at hp <;> (try (cases hp; done))
     injection hp with hp
     subst hp
     have hd := hF.evA hx
     simp only [den, Option.some.injEq] at hd
     refine fin (x := convert src dst (a.eval x)) ⟨_, rfl, ?_⟩ (by unfold execOp; rw [hop]; rfl)
     rw [← hd]
     unfold convert
     simp only [bind]
     rw [run_bind, run_underlying hsrc]
     simp only []
     rw [run_bind, run_underlying hdst]
     rfl
   ·rename_i b hx
    rw [hsrc] at hp
    cases hdst : P.underlying dst with
    | none => rw [hdst] at hp; cases hp
    | some d =>
     rw [hdst] at hp
     cases d <;> simp only at hp <;> (try (cases hp; done))
     injection hp with hp
     subst hp
     have hd := hF.evA hx
     simp only [den, Option.some.injEq] at hd
     refine fin (x := convert src dst (a.eval x)) ⟨_, rfl, ?_⟩ (by unfold execOp; rw [hop]; rfl)
     rw [← hd]
     unfold convert
     simp only [bind]
     rw [run_bind, run_underlying hsrc]
     simp only []
     rw [run_bind, run_underlying hdst]
     rfl
   ·rename_i k u hx
    obtain ⟨n, hn, hd⟩ := sym_den (hF.evA hx)
    rw [hsrc] at hp
    cases hdst : P.underlying dst with
    | none => rw [hdst] at hp; cases hp
    | some d =>
     rw [hdst] at hp
     cases d <;> simp only at hp <;> (try (cases hp; done))
     rename_i k'
     injection hp with hp
     subst hp
     refine fin (x := convert src dst (a.eval x)) ⟨.int k' (k'.wrap n), by simp only [den, denT, hn], ?_⟩ (by unfold execOp; rw [hop]; rfl)
     rw [hd]
     unfold convert
     simp only [bind]
     rw [run_bind, run_underlying hsrc]
     simp only []
     rw [run_bind, run_underlying hdst]
     rfl
   ·rename_i u hni hns hnsy hx
    cases hdst : P.underlying dst with
    | none => rw [hsrc, hdst] at hp; cases hp
    | some d =>
     rw [hsrc, hdst] at hp
     cases d <;> simp only at hp <;> (try (cases hp; done))
     split at hp
     ·rename_i cs he hcs
      split at hp
      ·rename_i n hn
       split at hp
       ·rw [Option.map_eq_some_iff] at hp
        obtain ⟨bs, hbs, rfl⟩ := hp
        have hX := hF.evA hx
        have hnstr : ∀ b, u ≠ .str b := fun b e => hns b (by rw [← e])
        refine fin (x := convert src dst (a.eval x)) ⟨.string ⟨bs.toArray⟩, rfl, ?_⟩ (by unfold execOp; rw [hop]; rfl)
        have hall : RRel P ν s (fun _ => True) w := ⟨fun i o _ hio => h.f i o (hD2 (by simp only [targetA]) i) hio, fun _ => h.g (hD2 (by simp only [targetA]))⟩
        have hc := cells_R (P := P) hall (fun _ _ _ _ _ => trivial) hX hcs hbs hnstr
        unfold convert
        simp only [bind]
        rw [run_bind, run_underlying hsrc]
        simp only []
        rw [run_bind, run_underlying hdst]
        simp only []
        have : ∃ A m c, a.eval x = .slice A m c := by
         cases u <;> simp only [cellsOfSlice] at hcs <;> try (cases hcs; done)
         ·exact absurd rfl (hnstr _)
         ·simp only [den, Option.some.injEq] at hX
          exact ⟨_, _, _, hX.symm⟩
         ·obtain ⟨g, C, _, _, _, e⟩ := slice_den hX
          exact ⟨_, _, _, e⟩
         ·simp only [den] at hX
          split at hX
          ·split at hX <;> injection hX with hX <;> exact ⟨_, _, _, hX.symm⟩
          ·cases hX
        obtain ⟨A, m, c, e⟩ := this
        rw [e] at hc ⊢
        cases A <;> (simp only []; rw [run_bind, run_underlying he]; exact hc)
       ·cases hp
      ·cases hp
     ·cases hp
   ·cases hp
  ·split at hk <;> cases hk
  ·cases hk
  ·cases hk
  ·cases hk
 case call c =>
  split at hk
  ·rename_i hc
   split at hk
   ·cases hk
   ·rename_i hwl
    simp only [pureA, hc] at hp
    split at hp
    ·rename_i x t hx ht
     split at hp
     ·rename_i d u hu hxe
      have hmap : ∃ kt e, d = .map kt e := by
       simp only [worldless, hc, ht, hu] at hwl
       cases d <;> first | exact ⟨_, _, rfl⟩ | (simp at hwl)
      obtain ⟨kt, e, rfl⟩ := hmap
      have hat : ∃ rest, c.argTypes = (t :: rest).toArray := by
       cases hL : c.argTypes.toList with
       | nil => rw [← Array.getElem?_toList, hL] at ht; cases ht
       | cons t' rest =>
        rw [← Array.getElem?_toList, hL] at ht
        injection ht with ht
        subst ht
        exact ⟨rest, arr_of hL⟩
      obtain ⟨rest, hat⟩ := hat
      obtain ⟨V, h1, h2⟩ := len_R (P := P) (ty := o.type) h (fun i hi => hD1 i (by subst hi; simp only [targetA, hx, hxe])) hu hp (hF.evA hxe) rest
      refine ⟨V, h1, ?_⟩
      rw [run_builtin hop hc, hat, arr_of hx]
      simp only [List.map_toArray, List.map_cons, List.map_nil]
      exact run_val h2
     ·cases hp
    ·cases hp
  ·cases hk
  ·cases hk
  ·cases hk
  ·cases hk
end
end Go.Proofs.YtcjbpaiomcfgnaaGreatDoor
namespace Go.Proofs.YtcjbpaiomcfgnaaGreatDoor
open Go Go.RowKit
theorem intEq_eq {a b : Int} (h : intEq a b = true) : a = b := by
 rw [intEq_spec] at h
 simpa using h
theorem kindEq_eq {a b : IntKind} (h : kindEq a b = true) : a = b := kindEq_spec h
theorem eqOp_eq {a b : BinOp} (h : eqOp a b = true) : a = b := by
 cases a <;> cases b <;> first | rfl | cases h
mutual
theorem eqTm_eq : ∀ {a b : Tm}, eqTm a b = true → a = b
 | .c x, b, h => by
  cases b <;> simp only [eqTm] at h <;> first | (cases h; done) | rw [intEq_eq h]
 | .x i, b, h => by
  cases b <;> simp only [eqTm] at h <;> first | (cases h; done) | rw [Nat.eq_of_beq_eq_true h]
 | .bin o k x y, b, h => by
  cases b <;> simp only [eqTm] at h <;> try (cases h; done)
  simp only [Bool.and_eq_true] at h
  rw [eqOp_eq h.1.1.1, kindEq_eq h.1.1.2, eqTm_eq h.1.2, eqTm_eq h.2]
 | .conv k x, b, h => by
  cases b <;> simp only [eqTm] at h <;> try (cases h; done)
  simp only [Bool.and_eq_true] at h
  rw [kindEq_eq h.1, eqTm_eq h.2]
 | .f o l, b, h => by
  cases b <;> simp only [eqTm] at h <;> try (cases h; done)
  simp only [Bool.and_eq_true] at h
  rw [Nat.eq_of_beq_eq_true h.1, eqTms_eq h.2]
theorem eqTms_eq : ∀ {a b : List Tm}, eqTms a b = true → a = b
 | [], b, h => by cases b <;> first | rfl | cases h
 | x :: l, b, h => by
  cases b with
  | nil => cases h
  | cons y m =>
   unfold eqTms at h
   split at h
   ·rename_i hxy
    rw [eqTm_eq hxy, eqTms_eq h]
   ·cases h
end
theorem un_spec {o : Nat} {t a : Tm} (h : un o t = some a) : t = .f o [a] := by
 unfold un at h
 split at h
 ·split at h
  ·rename_i hb
   injection h with h
   subst h
   rw [Nat.eq_of_beq_eq_true hb]
  ·cases h
 ·cases h
theorem bi_spec {o : Nat} {t : Tm} {p : Tm × Tm} (h : bi o t = some p) : t = .f o [p.1, p.2] := by
 unfold bi at h
 split at h
 ·split at h
  ·rename_i hb
   injection h with h
   subst h
   rw [Nat.eq_of_beq_eq_true hb]
  ·cases h
 ·cases h
theorem li_spec {o : Nat} {t : Tm} {l : List Tm} (h : li o t = some l) : t = .f o l := by
 unfold li at h
 split at h
 ·split at h
  ·rename_i hb
   injection h with h
   subst h
   rw [Nat.eq_of_beq_eq_true hb]
  ·cases h
 ·cases h
section
variable {ν : Nm}
theorem denT_f {o : Nat} {l : List Tm} {d : Dat} (ho : limF o = false) : denT ν (.f o l) = some d ↔ ∃ ds, denTs ν l = some ds ∧ stdU o ds = some d := by
 simp only [denT]
 cases h : denTs ν l with
 | none => simp
 | some ds => simp [ho]
theorem denTs_one {a : Tm} {ds : List Dat} : denTs ν [a] = some ds ↔ ∃ x, denT ν a = some x ∧ ds = [x] := by
 simp only [denTs]
 cases denT ν a with
 | none => simp
 | some x => simp [eq_comm]
theorem denTs_two {a b : Tm} {ds : List Dat} : denTs ν [a, b] = some ds ↔ ∃ x y, denT ν a = some x ∧ denT ν b = some y ∧ ds = [x, y] := by
 simp only [denTs]
 cases denT ν a with
 | none => simp
 | some x =>
  cases denT ν b with
  | none => simp
  | some y => simp [eq_comm]
theorem denTs_three {a b c : Tm} {ds : List Dat} : denTs ν [a, b, c] = some ds ↔ ∃ x y z, denT ν a = some x ∧ denT ν b = some y ∧ denT ν c = some z ∧ ds = [x, y, z] := by
 simp only [denTs]
 cases denT ν a with
 | none => simp
 | some x =>
  cases denT ν b with
  | none => simp
  | some y =>
   cases denT ν c with
   | none => simp
   | some z => simp [eq_comm]
theorem denTs_len : ∀ {l : List Tm} {ds : List Dat}, denTs ν l = some ds → ds.length = l.length
 | [], ds, h => by simp only [denTs, Option.some.injEq] at h; subst h; rfl
 | a :: l, ds, h => by
  simp only [denTs] at h
  split at h
  ·rename_i d ds' h1 h2
   injection h with h
   subst h
   simp [denTs_len h2]
  ·cases h
theorem bytesD_len : ∀ {ds : List Dat} {l : List UInt8}, bytesD ds = some l → l.length = ds.length
 | [], l, h => by simp only [bytesD, Option.some.injEq] at h; subst h; rfl
 | .n n :: ds, l, h => by
  simp only [bytesD] at h
  split at h
  ·rename_i m _ h2
   injection h with h
   subst h
   simp [bytesD_len h2]
  ·cases h
 | .s _ :: _, _, h => by cases h
 | .l _ :: _, _, h => by cases h
 | .v _ :: _, _, h => by cases h
 | .r _ _ _ :: _, _, h => by cases h
def lenDat : Dat → Option Nat
 | .s l => some l.length
 | .l l => some l.length
 | .r _ _ l => some l.length
 | _ => none
theorem den_f0 {a : Tm} {d : Dat} : denT ν (.f 0 [a]) = some d ↔ ∃ x n, denT ν a = some x ∧ lenDat x = some n ∧ d = .n n := by
 rw [denT_f rfl]
 constructor
 ·rintro ⟨ds, h1, h2⟩
  obtain ⟨x, h3, rfl⟩ := denTs_one.1 h1
  refine ⟨x, ?_⟩
  cases x <;> simp only [stdU, Nat.ble, baseU] at h2 <;> first | (cases h2; done) | (injection h2 with h2; subst h2; exact ⟨_, h3, rfl, rfl⟩)
 ·rintro ⟨x, n, h1, h2, rfl⟩
  refine ⟨_, denTs_one.2 ⟨x, h1, rfl⟩, ?_⟩
  cases x <;> simp only [lenDat] at h2 <;> first | (cases h2; done) | (injection h2 with h2; subst h2; rfl)
theorem den_f10 {a : Tm} {d : Dat} : denT ν (.f 10 [a]) = some d ↔ ∃ m, denT ν a = some (.n m) ∧ d = b01 (m == 0) := by
 rw [denT_f rfl]
 constructor
 ·rintro ⟨ds, h1, h2⟩
  obtain ⟨x, h3, rfl⟩ := denTs_one.1 h1
  cases x <;> simp only [stdU, Nat.ble, baseU] at h2 <;> first | (cases h2; done) | (injection h2 with h2; exact ⟨_, h3, h2.symm⟩)
 ·rintro ⟨m, h1, rfl⟩
  exact ⟨_, denTs_one.2 ⟨_, h1, rfl⟩, rfl⟩
theorem den_f5 {a b : Tm} {d : Dat} : denT ν (.f 5 [a, b]) = some d ↔ ∃ m n, denT ν a = some (.n m) ∧ denT ν b = some (.n n) ∧ d = b01 (m != 0 && n != 0) := by
 rw [denT_f rfl]
 constructor
 ·rintro ⟨ds, h1, h2⟩
  obtain ⟨x, y, h3, h4, rfl⟩ := denTs_two.1 h1
  cases x <;> cases y <;> simp only [stdU, Nat.ble, baseU] at h2 <;> first | (cases h2; done) | (injection h2 with h2; exact ⟨_, _, h3, h4, h2.symm⟩)
 ·rintro ⟨m, n, h1, h2, rfl⟩
  exact ⟨_, denTs_two.2 ⟨_, _, h1, h2, rfl⟩, rfl⟩
theorem den_f2 {a b : Tm} {d : Dat} : denT ν (.f 2 [a, b]) = some d ↔ (∃ x y, denT ν a = some (.s x) ∧ denT ν b = some (.s y) ∧ d = .s (x ++ y)) ∨ (∃ x y, denT ν a = some (.l x) ∧ denT ν b = some (.l y) ∧ d = .l (x ++ y)) := by
 rw [denT_f rfl]
 constructor
 ·rintro ⟨ds, h1, h2⟩
  obtain ⟨x, y, h3, h4, rfl⟩ := denTs_two.1 h1
  cases x <;> cases y <;> simp only [stdU, Nat.ble, baseU] at h2 <;> first | (cases h2; done) | (injection h2 with h2; exact .inl ⟨_, _, h3, h4, h2.symm⟩) | (injection h2 with h2; exact .inr ⟨_, _, h3, h4, h2.symm⟩)
 ·rintro (⟨m, n, h1, h2, rfl⟩ | ⟨m, n, h1, h2, rfl⟩)
  ·exact ⟨_, denTs_two.2 ⟨_, _, h1, h2, rfl⟩, rfl⟩
  ·exact ⟨_, denTs_two.2 ⟨_, _, h1, h2, rfl⟩, rfl⟩
theorem den_f3 {l : List Tm} {d : Dat} : denT ν (.f 3 l) = some d ↔ ∃ ds bs, denTs ν l = some ds ∧ bytesD ds = some bs ∧ d = .s bs := by
 rw [denT_f rfl]
 constructor
 ·rintro ⟨ds, h1, h2⟩
  have h2 : (bytesD ds).map Dat.s = some d := h2
  rw [Option.map_eq_some_iff] at h2
  obtain ⟨bs, h3, h4⟩ := h2
  exact ⟨ds, bs, h1, h3, h4.symm⟩
 ·rintro ⟨ds, bs, h1, h2, rfl⟩
  exact ⟨ds, h1, show (bytesD ds).map Dat.s = _ by rw [h2]; rfl⟩
theorem den_f8 {a i j : Tm} {d : Dat} : denT ν (.f 8 [a, i, j]) = some d ↔ ∃ (x : List UInt8) (m n : Int), denT ν a = some (.s x) ∧ denT ν i = some (.n m) ∧ denT ν j = some (.n n) ∧ 0 ≤ m ∧ m ≤ n ∧ n ≤ x.length ∧ d = .s ((x.drop m.toNat).take (n.toNat - m.toNat)) := by
 rw [denT_f rfl]
 constructor
 ·rintro ⟨ds, h1, h2⟩
  obtain ⟨x, y, z, h3, h4, h5, rfl⟩ := denTs_three.1 h1
  have h2 : partU x y z = some d := h2
  cases x <;> try (cases h2; done)
  cases y <;> try (cases h2; done)
  cases z <;> try (cases h2; done)
  simp only [partU] at h2
  split at h2
  ·rename_i hc
   injection h2 with h2
   exact ⟨_, _, _, h3, h4, h5, hc.1, hc.2.1, hc.2.2, h2.symm⟩
  ·cases h2
 ·rintro ⟨x, m, n, h1, h2, h3, h4, h5, h6, rfl⟩
  refine ⟨_, denTs_three.2 ⟨_, _, _, h1, h2, h3, rfl⟩, ?_⟩
  show (if 0 ≤ m ∧ m ≤ n ∧ n ≤ x.length then _ else _) = _
  rw [if_pos ⟨h4, h5, h6⟩]
theorem den_f9 {a i : Tm} {d : Dat} : denT ν (.f 9 [a, i]) = some d ↔ ∃ (x : List UInt8) (m : Int) (b : UInt8), denT ν a = some (.s x) ∧ denT ν i = some (.n m) ∧ 0 ≤ m ∧ x[m.toNat]? = some b ∧ d = .n b.toNat := by
 rw [denT_f rfl]
 constructor
 ·rintro ⟨ds, h1, h2⟩
  obtain ⟨x, y, h3, h4, rfl⟩ := denTs_two.1 h1
  have h2 : byteF x y = some d := h2
  obtain ⟨l, m, b, rfl, rfl, h5, h6, rfl⟩ := byteF_some h2
  exact ⟨_, _, b, h3, h4, h5, h6, rfl⟩
 ·rintro ⟨x, m, b, h1, h2, h3, h4, rfl⟩
  refine ⟨_, denTs_two.2 ⟨_, _, h1, h2, rfl⟩, ?_⟩
  show (if 0 ≤ m then _ else _) = _
  rw [if_pos h3, h4]
  rfl
theorem den_f12 {a b : Tm} {d : Dat} : denT ν (.f 12 [a, b]) = some d ↔ ∃ m n, denT ν a = some (.n m) ∧ denT ν b = some (.n n) ∧ d = .n (n - m) := by
 rw [denT_f rfl]
 constructor
 ·rintro ⟨ds, h1, h2⟩
  obtain ⟨x, y, h3, h4, rfl⟩ := denTs_two.1 h1
  cases x <;> cases y <;> simp only [stdU, Nat.ble, baseU] at h2 <;> first | (cases h2; done) | (injection h2 with h2; exact ⟨_, _, h3, h4, h2.symm⟩)
 ·rintro ⟨m, n, h1, h2, rfl⟩
  exact ⟨_, denTs_two.2 ⟨_, _, h1, h2, rfl⟩, rfl⟩
theorem den_f6 {a b : Tm} {d : Dat} : denT ν (.f 6 [a, b]) = some d ↔ ∃ m n : Int, denT ν a = some (.n m) ∧ denT ν b = some (.n n) ∧ d = .n (m.fdiv (2 ^ n.toNat)) := by
 rw [denT_f rfl]
 constructor
 ·rintro ⟨ds, h1, h2⟩
  obtain ⟨x, y, h3, h4, rfl⟩ := denTs_two.1 h1
  cases x <;> cases y <;> simp only [stdU, Nat.ble, baseU] at h2 <;> first | (cases h2; done) | (injection h2 with h2; exact ⟨_, _, h3, h4, h2.symm⟩)
 ·rintro ⟨m, n, h1, h2, rfl⟩
  exact ⟨_, denTs_two.2 ⟨_, _, h1, h2, rfl⟩, rfl⟩
theorem den_f7 {a b : Tm} {d : Dat} : denT ν (.f 7 [a, b]) = some d ↔ ∃ m n : Int, denT ν a = some (.n m) ∧ denT ν b = some (.n n) ∧ d = .n (m * 2 ^ n.toNat) := by
 rw [denT_f rfl]
 constructor
 ·rintro ⟨ds, h1, h2⟩
  obtain ⟨x, y, h3, h4, rfl⟩ := denTs_two.1 h1
  cases x <;> cases y <;> simp only [stdU, Nat.ble, baseU] at h2 <;> first | (cases h2; done) | (injection h2 with h2; exact ⟨_, _, h3, h4, h2.symm⟩)
 ·rintro ⟨m, n, h1, h2, rfl⟩
  exact ⟨_, denTs_two.2 ⟨_, _, h1, h2, rfl⟩, rfl⟩
theorem den_f4 {a b : Tm} {d : Dat} : denT ν (.f 4 [a, b]) = some d ↔ ∃ x y, denT ν a = some (.s x) ∧ denT ν b = some (.s y) ∧ d = b01 (x == y) := by
 rw [denT_f rfl]
 constructor
 ·rintro ⟨ds, h1, h2⟩
  obtain ⟨x, y, h3, h4, rfl⟩ := denTs_two.1 h1
  cases x <;> cases y <;> simp only [stdU, Nat.ble, baseU] at h2 <;> first | (cases h2; done) | (injection h2 with h2; exact ⟨_, _, h3, h4, h2.symm⟩)
 ·rintro ⟨m, n, h1, h2, rfl⟩
  exact ⟨_, denTs_two.2 ⟨_, _, h1, h2, rfl⟩, rfl⟩
theorem den_f1 {a i j : Tm} {d : Dat} : denT ν (.f 1 [a, i, j]) = some d ↔ ∃ (e : TypeId) (v : Value) (xs : List Dat) (m n : Int) (x : Dat), denT ν a = some (.r e v xs) ∧ denT ν i = some (.n m) ∧ denT ν j = some (.n n) ∧ 0 ≤ m ∧ 0 ≤ n ∧ xs[m.toNat]? = some x ∧ cellD x n.toNat = some d := by
 rw [denT_f rfl]
 constructor
 ·rintro ⟨ds, h1, h2⟩
  obtain ⟨x, y, z, h3, h4, h5, rfl⟩ := denTs_three.1 h1
  have h2 : cellU x y z = some d := h2
  cases x <;> try (cases h2; done)
  cases y <;> try (cases h2; done)
  cases z <;> try (cases h2; done)
  simp only [cellU] at h2
  split at h2
  ·rename_i hc
   rw [Option.bind_eq_some_iff] at h2
   obtain ⟨x, h6, h7⟩ := h2
   exact ⟨_, _, _, _, _, x, h3, h4, h5, hc.1, hc.2, h6, h7⟩
  ·cases h2
 ·rintro ⟨e, v, xs, m, n, x, h1, h2, h3, h4, h5, h6, h7⟩
  refine ⟨_, denTs_three.2 ⟨_, _, _, h1, h2, h3, rfl⟩, ?_⟩
  show (if 0 ≤ m ∧ 0 ≤ n then _ else _) = _
  rw [if_pos ⟨h4, h5⟩, h6]
  exact h7
theorem den_f15 {a : Tm} {d : Dat} : denT ν (.f 15 [a]) = some d ↔ ∃ e v xs, denT ν a = some (.r e v xs) ∧ d = .l xs := by
 rw [denT_f rfl]
 constructor
 ·rintro ⟨ds, h1, h2⟩
  obtain ⟨x, h3, rfl⟩ := denTs_one.1 h1
  cases x <;> simp only [stdU, Nat.ble, baseU] at h2 <;> first | (cases h2; done) | (injection h2 with h2; exact ⟨_, _, _, h3, h2.symm⟩)
 ·rintro ⟨e, v, xs, h1, rfl⟩
  exact ⟨_, denTs_one.2 ⟨_, h1, rfl⟩, rfl⟩
theorem den_f20 {a b : Tm} {d : Dat} : denT ν (.f 20 [a, b]) = some d ↔ ∃ x y, denT ν a = some x ∧ denT ν b = some y ∧ d = b01 (sameD x y) := by
 rw [denT_f rfl]
 constructor
 ·rintro ⟨ds, h1, h2⟩
  obtain ⟨x, y, h3, h4, rfl⟩ := denTs_two.1 h1
  have h2 : some (b01 (sameD x y)) = some d := h2
  injection h2 with h2
  exact ⟨_, _, h3, h4, h2.symm⟩
 ·rintro ⟨m, n, h1, h2, rfl⟩
  exact ⟨_, denTs_two.2 ⟨_, _, h1, h2, rfl⟩, rfl⟩
theorem den_list {o : Nat} {l : List Tm} {d : Dat} (h : o = 11 ∨ o = 13) : denT ν (.f o l) = some d ↔ ∃ ds, denTs ν l = some ds ∧ d = .l ds := by
 rcases h with rfl | rfl <;> rw [denT_f rfl] <;> exact ⟨fun ⟨ds, h1, h2⟩ => ⟨ds, h1, (Option.some.inj h2).symm⟩, fun ⟨ds, h1, h2⟩ => ⟨ds, h1, congrArg some h2.symm⟩⟩
theorem den_f14 {e : Nat} {d : Dat} : denT ν (.f 14 [.c (.ofNat e)]) = some d ↔ d = .r e (.slice none 0 0) [] := by
 rw [denT_f rfl]
 constructor
 ·rintro ⟨ds, h1, h2⟩
  simp only [denTs, denT, Option.some.injEq] at h1
  subst h1
  have h2 : some (Dat.r (Int.ofNat e).toNat (.slice none 0 0) []) = some d := h2
  injection h2 with h2
  exact h2.symm
 ·rintro rfl
  exact ⟨_, rfl, rfl⟩
theorem den_bin {o : BinOp} {k : IntKind} {a b : Tm} {d : Dat} : denT ν (.bin o k a b) = some d ↔ ∃ x y, denT ν a = some (.n x) ∧ denT ν b = some (.n y) ∧ binZ o k x y = some d := by
 simp only [denT]
 constructor
 ·intro h
  split at h
  ·rename_i x y h1 h2
   exact ⟨x, y, h1, h2, h⟩
  ·cases h
 ·rintro ⟨x, y, h1, h2, h3⟩
  rw [h1, h2]
  exact h3
theorem den_conv {k : IntKind} {a : Tm} {d : Dat} : denT ν (.conv k a) = some d ↔ ∃ x, denT ν a = some (.n x) ∧ d = .n (k.wrap x) := by
 simp only [denT]
 constructor
 ·intro h
  split at h
  ·rename_i x h1
   injection h with h
   exact ⟨x, h1, h.symm⟩
  ·cases h
 ·rintro ⟨x, h1, rfl⟩
  rw [h1]
end
theorem emod_le_self {x y : Int} (h : 0 ≤ x) (hy : 0 < y) : x % y ≤ x := by
 have h1 := Int.mul_ediv_add_emod x y
 have h2 : 0 ≤ y * (x / y) := Int.mul_nonneg (Int.le_of_lt hy) (Int.ediv_nonneg h (Int.le_of_lt hy))
 omega
def Bd (r : Option Int × Option Int) (z : Int) : Prop := (∀ m, r.1 = some m → m ≤ z) ∧ (∀ m, r.2 = some m → z ≤ m)
theorem bd_none (z : Int) : Bd (none, none) z := ⟨fun _ h => (by cases h), fun _ h => (by cases h)⟩
theorem bd_two {a b z : Int} (h : a ≤ z) (k : z ≤ b) : Bd (some a, some b) z := ⟨fun _ e => (by injection e with e; omega), fun _ e => (by injection e with e; omega)⟩
theorem bd_lo {a z : Int} (h : a ≤ z) : Bd (some a, none) z := ⟨fun _ e => (by injection e with e; omega), fun _ e => (by cases e)⟩
theorem loMax_le {a : Option Int} {n z : Int} (h : ∀ m, a = some m → m ≤ z) (hn : n ≤ z) : ∀ m, loMax a n = some m → m ≤ z := fun m hm => by
 cases a with
 | none => simp only [loMax, Option.some.injEq] at hm; omega
 | some a =>
  simp only [loMax, Option.some.injEq] at hm
  split at hm
  ·omega
  ·have := h a rfl; omega
theorem hiMin_le {a : Option Int} {n z : Int} (h : ∀ m, a = some m → z ≤ m) (hn : z ≤ n) : ∀ m, hiMin a n = some m → z ≤ m := fun m hm => by
 cases a with
 | none => simp only [hiMin, Option.some.injEq] at hm; omega
 | some a =>
  simp only [hiMin, Option.some.injEq] at hm
  split at hm
  ·have := h a rfl; omega
  ·omega
theorem bd_meet {p q : Option Int × Option Int} {z : Int} (h : Bd p z) (k : Bd q z) : Bd (meetB p q) z := by
 refine ⟨fun m hm => ?_, fun m hm => ?_⟩
 ·simp only [meetB] at hm
  cases hq : q.1 with
  | none => rw [hq] at hm; exact h.1 m hm
  | some n => rw [hq] at hm; exact loMax_le h.1 (k.1 n hq) m hm
 ·simp only [meetB] at hm
  cases hq : q.2 with
  | none => rw [hq] at hm; exact h.2 m hm
  | some n => rw [hq] at hm; exact hiMin_le h.2 (k.2 n hq) m hm
theorem bd_add {p q : Option Int × Option Int} {x y : Int} (h : Bd p x) (k : Bd q y) : Bd (addO p.1 q.1, addO p.2 q.2) (x + y) := by
 refine ⟨fun m hm => ?_, fun m hm => ?_⟩
 ·simp only [addO] at hm
  split at hm
  ·rename_i a b ha hb
   have := h.1 a ha; have := k.1 b hb
   injection hm with hm; omega
  ·cases hm
 ·simp only [addO] at hm
  split at hm
  ·rename_i a b ha hb
   have := h.2 a ha; have := k.2 b hb
   injection hm with hm; omega
  ·cases hm
theorem bd_sub {p q : Option Int × Option Int} {x y : Int} (h : Bd p x) (k : Bd q y) : Bd (subO p.1 q.2, subO p.2 q.1) (x - y) := by
 refine ⟨fun m hm => ?_, fun m hm => ?_⟩
 ·simp only [subO] at hm
  split at hm
  ·rename_i a b ha hb
   have := h.1 a ha; have := k.2 b hb
   injection hm with hm; omega
  ·cases hm
 ·simp only [subO] at hm
  split at hm
  ·rename_i a b ha hb
   have := h.2 a ha; have := k.1 b hb
   injection hm with hm; omega
  ·cases hm
theorem wrap_rng (k : IntKind) (n : Int) : k.min ≤ k.wrap n ∧ k.wrap n ≤ k.max := by
 cases k <;> simp only [IntKind.wrap, IntKind.min, IntKind.max, IntKind.bits, IntKind.signed] <;> constructor <;> (try simp) <;> (try split) <;> omega
theorem wrap_in {k : IntKind} {n : Int} (h : k.min ≤ n) (h2 : n ≤ k.max) : k.wrap n = n := by
 cases k <;> simp only [IntKind.wrap, IntKind.min, IntKind.max, IntKind.bits, IntKind.signed] at * <;> (try simp at *) <;> (try split) <;> omega
theorem inK_wrap {k : IntKind} {p : Option Int × Option Int} {n : Int} (h : inK k p = true) (hp : Bd p n) : k.wrap n = n := by
 unfold inK at h
 split at h
 ·rename_i a b ha hb
  simp only [Bool.and_eq_true, decide_eq_true_eq] at h
  exact wrap_in (Int.le_trans h.1 (hp.1 a ha)) (Int.le_trans (hp.2 b hb) h.2)
 ·cases h
theorem fitK_bd {k : IntKind} {p : Option Int × Option Int} {n : Int} (hp : Bd p n) : Bd (fitK k p) (k.wrap n) := by
 unfold fitK
 split
 ·rename_i h
  rw [inK_wrap h hp]
  exact hp
 ·exact bd_two (wrap_rng k n).1 (wrap_rng k n).2
theorem nonneg_le {p : Option Int × Option Int} {n : Int} (h : nonneg p = true) (hp : Bd p n) : 0 ≤ n := by
 unfold nonneg at h
 split at h
 ·rename_i a ha
  have := hp.1 a ha
  simp only [decide_eq_true_eq] at h
  omega
 ·cases h
theorem b01_bd (b : Bool) : Bd (some 0, some 1) (if b = true then 1 else 0) := by
 cases b
 ·exact bd_two (by simp) (by simp)
 ·exact bd_two (by simp) (by simp)
theorem quoHi_le {x y a : Int} {c : Option Int} (hx : 0 ≤ x) (ha : x ≤ a) (hy : 0 ≤ y) (hc : ∀ m, c = some m → m ≤ y) : x / y ≤ quoHi a c := by
 have base : x / y ≤ a := Int.le_trans (Int.ediv_le_self _ hx) ha
 unfold quoHi
 split
 ·rename_i m
  split
  ·rename_i h0
   have h0 : 0 < m := of_decide_eq_true h0
   have hm := hc m rfl
   refine (Int.le_ediv_iff_mul_le h0).2 ?_
   have h1 : 0 ≤ x / y := Int.ediv_nonneg hx hy
   have h2 : x / y * m ≤ x / y * y := Int.mul_le_mul_of_nonneg_left hm h1
   have h3 : x / y * y ≤ x := Int.ediv_mul_le x (by omega)
   omega
  ·exact base
 ·exact base
theorem binB_sound {o : BinOp} {k : IntKind} {p q : Option Int × Option Int} {x y z : Int} (h : binZ o k x y = some (.n z)) (hp : Bd p x) (hq : Bd q y) : Bd (binB o k p q) z := by
 cases o
 case add =>
  simp only [binZ, intBinA, Option.some.injEq, Dat.n.injEq] at h
  subst h
  exact fitK_bd (bd_add hp hq)
 case sub =>
  simp only [binZ, intBinA, Option.some.injEq, Dat.n.injEq] at h
  subst h
  exact fitK_bd (bd_sub hp hq)
 case mul =>
  simp only [binZ, intBinA, Option.some.injEq, Dat.n.injEq] at h
  subst h
  simp only [binB]
  split
  ·rename_i a b hn ha hb
   simp only [Bool.and_eq_true] at hn
   have h1 := nonneg_le hn.1 hp
   have h2 := nonneg_le hn.2 hq
   have h3 := hp.2 a ha
   have h4 := hq.2 b hb
   exact fitK_bd (bd_two (Int.mul_nonneg h1 h2) (Int.mul_le_mul h3 h4 h2 (Int.le_trans h1 h3)))
  ·exact bd_two (wrap_rng _ _).1 (wrap_rng _ _).2
 case quo =>
  simp only [binZ, intBinA] at h
  split at h
  ·rename_i k' n hh
   split at hh
   ·cases hh
   ·simp only [Option.some.injEq, AV.int.injEq] at hh
    obtain ⟨rfl, rfl⟩ := hh
    simp only [Option.some.injEq, Dat.n.injEq] at h
    subst h
    simp only [binB]
    split
    ·rename_i a hn ha
     simp only [Bool.and_eq_true] at hn
     have h1 := nonneg_le hn.1 hp
     have h2 := nonneg_le hn.2 hq
     have h3 := hp.2 a ha
     have e : x.tdiv y = x / y := Int.tdiv_eq_ediv_of_nonneg h1
     refine fitK_bd (bd_two ?_ ?_)
     ·rw [e]; exact Int.ediv_nonneg h1 h2
     ·rw [e]; exact quoHi_le h1 h3 h2 fun c hc => hq.1 c hc
    ·exact bd_two (wrap_rng _ _).1 (wrap_rng _ _).2
  ·rename_i hh
   exfalso
   revert hh
   cases intEq y 0 <;> intro hh <;> cases hh
  ·cases h
 case rem =>
  simp only [binZ, intBinA] at h
  split at h
  ·rename_i k' n hh
   split at hh
   ·cases hh
   ·simp only [Option.some.injEq, AV.int.injEq] at hh
    obtain ⟨rfl, rfl⟩ := hh
    simp only [Option.some.injEq, Dat.n.injEq] at h
    subst h
    simp only [binB]
    split
    ·rename_i a b hn ha hb
     split
     ·rename_i h0
      simp only [decide_eq_true_eq] at h0
      have h1 := nonneg_le hn hp
      have h2 := hq.1 a ha
      have h3 := hq.2 b hb
      have e : x.tmod y = x % y := Int.tmod_eq_emod_of_nonneg h1
      rw [e]
      have h4 := Int.emod_nonneg x (show y ≠ 0 by omega)
      have h5 := Int.emod_lt_of_pos x (show 0 < y by omega)
      refine ⟨fun m hm => by injection hm with hm; omega, fun m hm => ?_⟩
      have h6 : ∀ m, p.2 = some m → x % y ≤ m := fun m hm => Int.le_trans (emod_le_self h1 (show 0 < y by omega)) (hp.2 m hm)
      cases hp2 : p.2 with
      | none => rw [hp2] at hm; simp only [hiMinO, Option.some.injEq] at hm; omega
      | some c =>
       rw [hp2] at hm
       exact hiMin_le (a := some (b - 1)) (fun m hm => by injection hm with hm; omega) (h6 c hp2) m hm
     ·exact bd_none _
    ·exact bd_none _
  ·rename_i hh
   exfalso
   revert hh
   cases intEq y 0 <;> intro hh <;> cases hh
  ·cases h
 all_goals
  simp only [binZ, intBinA] at h
  first
  | (cases h; done)
  | (simp only [Option.some.injEq, Dat.n.injEq] at h; subst h; exact bd_two (wrap_rng _ _).1 (wrap_rng _ _).2)
  | (simp only [Option.some.injEq, Dat.n.injEq] at h; subst h; exact b01_bd _)
def cmpZ (o : BinOp) (x y : Int) : Option Bool :=
 match o with
 | .eql => some (decide (x = y))
 | .neq => some (!decide (x = y))
 | .lss => some (decide (x < y))
 | .leq => some (decide (x ≤ y))
 | .gtr => some (decide (x > y))
 | .geq => some (decide (x ≥ y))
 | _ => none
theorem beq_eq_decide' (a b : Int) : (a == b) = decide (a = b) := by
 by_cases h : a = b <;> simp [h]
theorem intEq_iff {a b : Int} : intEq a b = decide (a = b) := by
 rw [intEq_spec]; exact beq_eq_decide' a b
theorem binZ_cmp {o : BinOp} {k : IntKind} {x y : Int} {q : Bool} (h : cmpZ o x y = some q) : binZ o k x y = some (.n (if q = true then 1 else 0)) := by
 cases o <;> simp only [cmpZ, Option.some.injEq] at h <;> first | (cases h; done) | (subst h; simp only [binZ, intBinA, intEq_iff])
theorem fact_sound {o : BinOp} {k : IntKind} {x y n : Int} {b : Bool} {q : Option Int × Option Int} (h : binZ o k x y = some (.n n)) (hb : decide (n ≠ 0) = b) (hq : Bd q y) : Bd (factB o b q) x := by
 have cmp : ∀ r, cmpZ o x y = some r → r = b := fun r hr => by
  rw [binZ_cmp (k := k) hr] at h
  injection h with h
  injection h with h
  rw [← hb, ← h]
  cases r <;> rfl
 have one : Bd (some 1, some 1) 1 := bd_two (by omega) (by omega)
 cases o <;> cases b <;> simp only [factB] <;> (try exact bd_none _) <;> (have hc := cmp _ rfl; simp at hc)
 ·subst hc; exact hq
 ·subst hc; exact hq
 ·exact ⟨fun m hm => by have := hq.1 m hm; omega, fun _ hm => by cases hm⟩
 ·refine ⟨fun _ hm => (by cases hm), fun m hm => ?_⟩
  simp only [subO] at hm
  split at hm
  ·rename_i a c ha hc2
   have := hq.2 a ha
   injection hm with hm
   injection hc2 with hc2
   omega
  ·cases hm
 ·refine ⟨fun m hm => ?_, fun _ hm => by cases hm⟩
  simp only [addO] at hm
  split at hm
  ·rename_i a c ha hc2
   have := hq.1 a ha
   injection hm with hm
   injection hc2 with hc2
   omega
  ·cases hm
 ·exact ⟨fun _ hm => (by cases hm), fun m hm => by have := hq.2 m hm; omega⟩
 ·exact ⟨fun _ hm => (by cases hm), fun m hm => by have := hq.2 m hm; omega⟩
 ·refine ⟨fun m hm => ?_, fun _ hm => by cases hm⟩
  simp only [addO] at hm
  split at hm
  ·rename_i a c ha hc2
   have := hq.1 a ha
   injection hm with hm
   injection hc2 with hc2
   omega
  ·cases hm
 ·refine ⟨fun _ hm => (by cases hm), fun m hm => ?_⟩
  simp only [subO] at hm
  split at hm
  ·rename_i a c ha hc2
   have := hq.2 a ha
   injection hm with hm
   injection hc2 with hc2
   omega
  ·cases hm
 ·exact ⟨fun m hm => by have := hq.1 m hm; omega, fun _ hm => by cases hm⟩
theorem flip_cmp {o : BinOp} {x y : Int} {r : Bool} (h : cmpZ o x y = some r) : cmpZ (flipOp o) y x = some r := by
 cases o <;> first
  | (cases h; done)
  | exact h
  | exact Eq.trans (congrArg some (decide_eq_decide.2 eq_comm)) h
  | exact Eq.trans (congrArg (fun b : Bool => some (!b)) (decide_eq_decide.2 eq_comm)) h
theorem flip_sound {o : BinOp} {k : IntKind} {x y n : Int} {b : Bool} {q : Option Int × Option Int} (h : binZ o k x y = some (.n n)) (hb : decide (n ≠ 0) = b) (hq : Bd q x) : Bd (factB (flipOp o) b q) y := by
 cases hc : cmpZ o x y with
 | some r =>
  rw [binZ_cmp (k := k) hc] at h
  injection h with h
  injection h with h
  exact fact_sound (k := k) (binZ_cmp (flip_cmp hc)) (by rw [h]; exact hb) hq
 | none => cases o <;> first | (cases hc; done) | (cases b <;> exact bd_none _)
section
variable {ν : Nm}
theorem so_bin {o : BinOp} {k : IntKind} {a c : Tm} {b : Bool} (h : IsSo ν (.bin o k a c) b) : ∃ x y n, denT ν a = some (.n x) ∧ denT ν c = some (.n y) ∧ binZ o k x y = some (.n n) ∧ decide (n ≠ 0) = b := by
 obtain ⟨n, h1, h2⟩ := h
 obtain ⟨x, y, h3, h4, h5⟩ := den_bin.1 h1
 exact ⟨x, y, n, h3, h4, h5, h2⟩
theorem bndT_sound {E : Tm → Option Int × Option Int} (hE : ∀ u z, denT ν u = some (.n z) → Bd (E u) z) {t : Tm} {z : Int} (hz : denT ν t = some (.n z)) : ∀ {pc : List (Tm × Bool)}, (∀ t b, (t, b) ∈ pc → IsSo ν t b) → Bd (bndT E t pc) z
 | [], _ => bd_none _
 | (u, b) :: pc, hpc => by
  have ih := bndT_sound hE hz (pc := pc) fun t b h => hpc t b (List.mem_cons_of_mem _ h)
  unfold bndT
  split
  ·rename_i h; cases h
  ·rename_i o k a c b' pc' heq
   simp only [List.cons.injEq, Prod.mk.injEq] at heq
   obtain ⟨⟨rfl, rfl⟩, rfl⟩ := heq
   obtain ⟨x, y, n, h1, h2, h3, h4⟩ := so_bin (hpc _ _ (List.mem_cons_self ..))
   have m1 : Bd (match eqTm a t with | true => meetB (bndT E t pc) (factB o b (E c)) | false => bndT E t pc) z := by
    split
    ·rename_i he
     have := eqTm_eq he
     subst this
     rw [hz] at h1
     injection h1 with h1
     injection h1 with h1
     subst h1
     exact bd_meet ih (fact_sound h3 h4 (hE _ _ h2))
    ·exact ih
   simp only
   split
   ·rename_i he
    have := eqTm_eq he
    subst this
    rw [hz] at h2
    injection h2 with h2
    injection h2 with h2
    subst h2
    exact bd_meet m1 (flip_sound h3 h4 (hE _ _ h1))
   ·exact m1
  ·rename_i heq
   simp only [List.cons.injEq, Prod.mk.injEq] at heq
   obtain ⟨_, rfl⟩ := heq
   exact ih
theorem tight1 {r : Option Int × Option Int} {z n : Int} (h : Bd r z) (hne : z ≠ n) : Bd (match r.1 with | some m => (match intEq m n with | true => some (m + 1) | false => some m) | none => none, match r.2 with | some m => (match intEq m n with | true => some (m - 1) | false => some m) | none => none) z := by
 refine ⟨fun m hm => ?_, fun m hm => ?_⟩
 ·simp only at hm
  split at hm
  ·rename_i a ha
   have := h.1 a ha
   split at hm
   ·rename_i he
    have := intEq_eq he
    injection hm with hm
    omega
   ·injection hm with hm
    omega
  ·cases hm
 ·simp only at hm
  split at hm
  ·rename_i a ha
   have := h.2 a ha
   split at hm
   ·rename_i he
    have := intEq_eq he
    injection hm with hm
    omega
   ·injection hm with hm
    omega
  ·cases hm
theorem tight_sound {t : Tm} {z : Int} (hz : denT ν t = some (.n z)) : ∀ {pc : List (Tm × Bool)} {r : Option Int × Option Int}, (∀ t b, (t, b) ∈ pc → IsSo ν t b) → Bd r z → Bd (tight t pc r) z
 | [], _, _, h => h
 | (u, b) :: pc, r, hpc, h => by
  have rest : ∀ {r : Option Int × Option Int}, Bd r z → Bd (tight t pc r) z := fun h => tight_sound hz (fun t b h => hpc t b (List.mem_cons_of_mem _ h)) h
  unfold tight
  split
  ·rename_i heq; cases heq
  ·rename_i o k a n b' pc' heq
   simp only [List.cons.injEq, Prod.mk.injEq] at heq
   obtain ⟨⟨rfl, rfl⟩, rfl⟩ := heq
   obtain ⟨x, y, m, h1, h2, h3, h4⟩ := so_bin (hpc _ _ (List.mem_cons_self ..))
   simp only [denT, Option.some.injEq, Dat.n.injEq] at h2
   subst h2
   refine rest ?_
   split
   ·rename_i he
    have := eqTm_eq he
    subst this
    rw [hz] at h1
    injection h1 with h1
    injection h1 with h1
    subst h1
    refine tight1 h fun e => ?_
    subst e
    rw [binZ_cmp (q := false) (by simp [cmpZ])] at h3
    injection h3 with h3
    injection h3 with h3
    subst h3
    simp at h4
   ·rename_i he
    have := eqTm_eq he
    subst this
    rw [hz] at h1
    injection h1 with h1
    injection h1 with h1
    subst h1
    refine tight1 h fun e => ?_
    subst e
    rw [binZ_cmp (q := true) (by simp [cmpZ])] at h3
    injection h3 with h3
    injection h3 with h3
    subst h3
    simp at h4
   ·exact h
  ·rename_i heq
   simp only [List.cons.injEq, Prod.mk.injEq] at heq
   obtain ⟨_, rfl⟩ := heq
   exact rest h
theorem flatU_s {x : Option Dat} {l : List UInt8} (h : flatU x = some (.s l)) : x = some (.s l) := by
 unfold flatU at h
 split at h
 ·cases h
 ·exact h
 ·cases h
theorem flatU_n {x : Option Dat} {n : Int} (h : flatU x = some (.n n)) : x = some (.n n) := by
 unfold flatU at h
 split at h
 ·exact h
 ·cases h
 ·cases h
theorem flatU_or {x : Option Dat} {d : Dat} (h : flatU x = some d) : (∃ n, d = .n n) ∨ ∃ l, d = .s l := by
 unfold flatU at h
 split at h
 ·injection h with h; exact .inl ⟨_, h.symm⟩
 ·injection h with h; exact .inr ⟨_, h.symm⟩
 ·cases h
theorem bndF_sound {E : Tm → Option Int × Option Int} (hE : ∀ u z, denT ν u = some (.n z) → Bd (E u) z) {t : Tm} {z : Int} (hz : denT ν t = some (.n z)) : Bd (bndF E t) z := by
 unfold bndF
 split
 ·simp only [denT, Option.some.injEq, Dat.n.injEq] at hz
  subst hz
  exact bd_two (Int.le_refl _) (Int.le_refl _)
 ·exact bd_none _
 ·obtain ⟨x, h1, h2⟩ := den_conv.1 hz
  injection h2 with h2
  subst h2
  exact fitK_bd (hE _ _ h1)
 ·obtain ⟨x, y, h1, h2, h3⟩ := den_bin.1 hz
  exact binB_sound h3 (hE _ _ h1) (hE _ _ h2)
 ·rename_i o l
  split
  ·rename_i u hu
   rw [un_spec hu] at hz
   obtain ⟨x, n, h1, h2, h3⟩ := den_f0.1 hz
   injection h3 with h3
   subst h3
   refine bd_meet (bd_lo (by omega)) ?_
   split
   ·rename_i a b hb
    rw [bi_spec hb] at h1
    have hi : ∀ {p q : Option Int × Option Int} {m k : Nat}, Bd p m → Bd q k → Bd (none, addO p.2 q.2) ((m + k : Nat) : Int) := fun {p q m k} hp hq => ⟨fun _ e => (by cases e), fun c hc => by
     have := (bd_add hp hq).2 c hc
     omega⟩
    rcases den_f2.1 h1 with ⟨p, q, h4, h5, rfl⟩ | ⟨p, q, h4, h5, rfl⟩
    ·simp only [lenDat, Option.some.injEq, List.length_append] at h2
     subst h2
     exact hi (hE _ _ (den_f0.2 ⟨_, _, h4, rfl, rfl⟩)) (hE _ _ (den_f0.2 ⟨_, _, h5, rfl, rfl⟩))
    ·simp only [lenDat, Option.some.injEq, List.length_append] at h2
     subst h2
     exact hi (hE _ _ (den_f0.2 ⟨_, _, h4, rfl, rfl⟩)) (hE _ _ (den_f0.2 ⟨_, _, h5, rfl, rfl⟩))
   ·split
    ·rename_i l3 h3
     rw [li_spec h3] at h1
     obtain ⟨ds, bs, h4, h5, rfl⟩ := den_f3.1 h1
     simp only [lenDat, Option.some.injEq] at h2
     rw [bytesD_len h5, denTs_len h4] at h2
     subst h2
     exact bd_two (Int.le_refl _) (Int.le_refl _)
    ·split
     ·rename_i a i j h3
      rw [li_spec h3] at h1
      obtain ⟨x, m, n', h4, h5, h6, h7, h8, h9, rfl⟩ := den_f8.1 h1
      simp only [lenDat, Option.some.injEq, List.length_take, List.length_drop] at h2
      have := hE _ _ (den_f0.2 ⟨_, _, h4, rfl, rfl⟩)
      exact ⟨fun _ e => (by cases e), fun c hc => by have := this.2 c hc; omega⟩
     ·exact bd_none _
     ·split
      ·rename_i l3 h3
       rw [li_spec h3] at h1
       obtain ⟨ds, h4, rfl⟩ := (den_list (.inl rfl)).1 h1
       simp only [lenDat, Option.some.injEq] at h2
       rw [denTs_len h4] at h2
       subst h2
       exact bd_two (Int.le_refl _) (Int.le_refl _)
      ·split
       ·rename_i a h3
        rw [un_spec h3] at h1
        obtain ⟨e, v, xs, h4, rfl⟩ := den_f15.1 h1
        simp only [lenDat, Option.some.injEq] at h2
        subst h2
        exact hE _ _ (den_f0.2 ⟨_, _, h4, rfl, rfl⟩)
       ·split
        ·rename_i p l' _ _ _ _ _
         refine ⟨fun _ e => (by cases e), fun c hc => ?_⟩
         simp only at hc
         split at hc
         ·rename_i hp
          have hlim : limF p = false := by
           have := Nat.le_of_ble_eq_true hp
           unfold limF
           cases h : Nat.beq p 50 with
           | false => rfl
           | true => have := Nat.eq_of_beq_eq_true h; omega
          obtain ⟨ds, h4, h5⟩ := (denT_f hlim).1 h1
          unfold stdU at h5
          rw [hp] at h5
          simp only at h5
          rcases flatU_or h5 with ⟨m, rfl⟩ | ⟨l, rfl⟩
          ·cases h2
          ·simp only [lenDat, Option.some.injEq] at h2
           subst h2
           exact progU_len (flatU_s h5) hc
         ·cases hc
        ·exact bd_none _
  ·split
   ·rename_i hb
    simp only [Bool.or_eq_true] at hb
    have so : ∀ b, Dat.n z = b01 b → Bd (some 0, some 1) z := fun b hb => by
     injection hb with hb
     subst hb
     exact b01_bd b
    rcases hb with ((hb | hb) | hb) | hb <;> have hb := Nat.eq_of_beq_eq_true hb <;> subst hb <;> obtain ⟨ds, h1, h2⟩ := (denT_f rfl).1 hz
    ·have h2 : twoF eqF ds = some (.n z) := h2
     obtain ⟨a, b, rfl, h2⟩ := twoF_some h2
     obtain ⟨_, _, _, _, h2⟩ := eqF_some h2
     exact so _ h2
    ·have h2 : twoF (numF andZ) ds = some (.n z) := h2
     obtain ⟨a, b, rfl, h2⟩ := twoF_some h2
     obtain ⟨_, _, _, _, h2⟩ := numF_some h2
     exact so _ h2
    ·have h2 : oneF notF ds = some (.n z) := h2
     obtain ⟨a, rfl, h2⟩ := oneF_some h2
     obtain ⟨_, _, h2⟩ := notF_some h2
     exact so _ h2
    ·have h2 : twoF (fun a b => some (b01 (sameD a b))) ds = some (.n z) := h2
     obtain ⟨a, b, rfl, h2⟩ := twoF_some h2
     injection h2 with h2
     exact so _ h2.symm
   ·split
    ·rename_i hb
     have hb := Nat.eq_of_beq_eq_true hb
     subst hb
     obtain ⟨ds, h1, h2⟩ := (denT_f rfl).1 hz
     have h2 : twoF byteF ds = some (.n z) := h2
     obtain ⟨a, i, rfl, h2⟩ := twoF_some h2
     obtain ⟨_, _, b, _, _, _, _, h4⟩ := byteF_some h2
     injection h4 with h4
     subst h4
     have := b.toNat_lt
     exact bd_two (by omega) (by omega)
    ·split
     ·rename_i a b hb
      rw [bi_spec hb] at hz
      obtain ⟨m, n, h1, h2, h3⟩ := den_f12.1 hz
      injection h3 with h3
      subst h3
      exact bd_sub (hE _ _ h2) (hE _ _ h1)
     ·split
      ·rename_i a b hb
       rw [bi_spec hb] at hz
       obtain ⟨m, n, h1, h2, h3⟩ := den_f6.1 hz
       injection h3 with h3
       subst h3
       split
       ·rename_i hn
        have h0 := nonneg_le hn (hE _ _ h1)
        have hp : (0 : Int) < 2 ^ n.toNat := Int.pow_pos (by decide)
        rw [Int.fdiv_eq_ediv_of_nonneg _ (Int.le_of_lt hp)]
        refine ⟨fun c hc => by injection hc with hc; have := Int.ediv_nonneg h0 (Int.le_of_lt hp); omega, fun c hc => Int.le_trans (Int.ediv_le_self _ h0) ((hE _ _ h1).2 c hc)⟩
       ·exact bd_none _
      ·split
       ·rename_i hp
        have hlim : limF o = false := by
         have := Nat.le_of_ble_eq_true hp
         unfold limF
         cases h : Nat.beq o 50 with
         | false => rfl
         | true => have := Nat.eq_of_beq_eq_true h; omega
        obtain ⟨ds, h4, h5⟩ := (denT_f hlim).1 hz
        unfold stdU at h5
        rw [hp] at h5
        exact progU_rng (flatU_n h5)
       ·exact bd_none _
theorem bndR_sound {pc : List (Tm × Bool)} (hpc : ∀ t b, (t, b) ∈ pc → IsSo ν t b) {E : Tm → Option Int × Option Int} (hE : ∀ u z, denT ν u = some (.n z) → Bd (E u) z) : ∀ (d : Nat) {t : Tm} {z : Int}, denT ν t = some (.n z) → Bd (bndR E pc d t) z
 | 0, t, z, hz => hE t z hz
 | d + 1, t, z, hz => by
  unfold bndR
  split
  ·simp only [denT, Option.some.injEq, Dat.n.injEq] at hz
   subst hz
   exact bd_two (Int.le_refl _) (Int.le_refl _)
  ·exact tight_sound hz hpc (bd_meet (bndT_sound hE hz hpc) (bndF_sound (fun u z (h : denT ν u = some (.n z)) => bndR_sound hpc hE d h) hz))
theorem bndS_sound {pc : List (Tm × Bool)} (hpc : ∀ t b, (t, b) ∈ pc → IsSo ν t b) : ∀ (d : Nat) {t : Tm} {z : Int}, denT ν t = some (.n z) → Bd (bndS d pc t) z
 | 0, t, z, hz => by
  unfold bndS
  split
  ·simp only [denT, Option.some.injEq, Dat.n.injEq] at hz
   subst hz
   exact bd_two (Int.le_refl _) (Int.le_refl _)
  ·exact bd_none _
 | d + 1, t, z, hz => by
  unfold bndS
  exact bndR_sound hpc (fun u z (h : denT ν u = some (.n z)) => bndS_sound hpc d h) 80 hz
theorem leO_le {a b : Option Int} {x y : Int} (h : leO a b = true) (ha : ∀ m, a = some m → x ≤ m) (hb : ∀ m, b = some m → m ≤ y) : x ≤ y := by
 unfold leO at h
 split at h
 ·rename_i p q
  have := ha p rfl; have := hb q rfl
  simp only [decide_eq_true_eq] at h
  omega
 ·cases h
theorem ltO_lt {a b : Option Int} {x y : Int} (h : ltO a b = true) (ha : ∀ m, a = some m → x ≤ m) (hb : ∀ m, b = some m → m ≤ y) : x < y := by
 unfold ltO at h
 split at h
 ·rename_i p q
  have := ha p rfl; have := hb q rfl
  simp only [decide_eq_true_eq] at h
  omega
 ·cases h
theorem tri {p q a c b : Bool} (h : (match p, q with | true, _ => some a | _, true => some c | _, _ => none) = some b) : (p = true ∧ b = a) ∨ (q = true ∧ b = c) := by
 cases p <;> cases q <;> simp only [Option.some.injEq] at h <;> first | (cases h; done) | exact .inl ⟨rfl, h.symm⟩ | exact .inr ⟨rfl, h.symm⟩
theorem cmpT_sound {o : BinOp} {p q : Option Int × Option Int} {x y : Int} {b : Bool} (h : cmpT o p q = some b) (hp : Bd p x) (hq : Bd q y) : cmpZ o x y = some b := by
 have e : ∀ {u v : Bool}, u = v → some u = some v := fun h => congrArg some h
 cases o <;> try (cases h; done)
 case eql =>
  rcases tri (a := false) (c := true) h with ⟨hc, rfl⟩ | ⟨hc, rfl⟩
  ·refine e (decide_eq_false fun h => ?_)
   simp only [Bool.or_eq_true] at hc
   rcases hc with hc | hc
   ·have := ltO_lt hc hp.2 hq.1; omega
   ·have := ltO_lt hc hq.2 hp.1; omega
  ·simp only [Bool.and_eq_true] at hc
   have h1 := leO_le hc.1 hp.2 hq.1; have h2 := leO_le hc.2 hq.2 hp.1
   exact e (decide_eq_true (by omega))
 case neq =>
  rcases tri (a := true) (c := false) h with ⟨hc, rfl⟩ | ⟨hc, rfl⟩
  ·refine e (show (!decide (x = y)) = true from ?_)
   rw [decide_eq_false]
   ·rfl
   intro h
   simp only [Bool.or_eq_true] at hc
   rcases hc with hc | hc
   ·have := ltO_lt hc hp.2 hq.1; omega
   ·have := ltO_lt hc hq.2 hp.1; omega
  ·simp only [Bool.and_eq_true] at hc
   have h1 := leO_le hc.1 hp.2 hq.1; have h2 := leO_le hc.2 hq.2 hp.1
   refine e (show (!decide (x = y)) = false from ?_)
   rw [decide_eq_true (by omega)]
   rfl
 case lss =>
  rcases tri (a := true) (c := false) h with ⟨hc, rfl⟩ | ⟨hc, rfl⟩
  ·have := ltO_lt hc hp.2 hq.1; exact e (decide_eq_true (by omega))
  ·have := leO_le hc hq.2 hp.1; exact e (decide_eq_false (by omega))
 case leq =>
  rcases tri (a := true) (c := false) h with ⟨hc, rfl⟩ | ⟨hc, rfl⟩
  ·have := leO_le hc hp.2 hq.1; exact e (decide_eq_true (by omega))
  ·have := ltO_lt hc hq.2 hp.1; exact e (decide_eq_false (by omega))
 case gtr =>
  rcases tri (a := false) (c := true) h with ⟨hc, rfl⟩ | ⟨hc, rfl⟩
  ·have := leO_le hc hp.2 hq.1; exact e (decide_eq_false (by omega))
  ·have := ltO_lt hc hq.2 hp.1; exact e (decide_eq_true (by omega))
 case geq =>
  rcases tri (a := false) (c := true) h with ⟨hc, rfl⟩ | ⟨hc, rfl⟩
  ·have := ltO_lt hc hp.2 hq.1; exact e (decide_eq_false (by omega))
  ·have := leO_le hc hq.2 hp.1; exact e (decide_eq_true (by omega))
theorem knownT_sound {t : Tm} {b : Bool} : ∀ {pc : List (Tm × Bool)}, knownT t pc = some b → (∀ t b, (t, b) ∈ pc → IsSo ν t b) → IsSo ν t b
 | [], h, _ => by cases h
 | (u, c) :: pc, h, hpc => by
  unfold knownT at h
  split at h
  ·rename_i he
   injection h with h
   subst h
   rw [← eqTm_eq he]
   exact hpc _ _ (List.mem_cons_self ..)
  ·exact knownT_sound h fun t b ht => hpc t b (List.mem_cons_of_mem _ ht)
def LemOk (lm : List Lem) : Prop := ∀ e ∈ lm, ∀ ν : Nm, (∀ t b, (t, b) ∈ e.hs → IsSo ν t b) → ∀ n, denT ν e.t = some (.n n) → decide (n ≠ 0) = e.b
theorem hasAll_sound {pc : List (Tm × Bool)} (hpc : ∀ t b, (t, b) ∈ pc → IsSo ν t b) : ∀ {l : List (Tm × Bool)}, hasAll pc l = true → ∀ t b, (t, b) ∈ l → IsSo ν t b
 | [], _, _, _, h => by cases h
 | (u, c) :: l, h, t, b, hm => by
  simp only [hasAll, Bool.and_eq_true] at h
  rcases List.mem_cons.1 hm with e | hm
  ·simp only [Prod.mk.injEq] at e
   obtain ⟨rfl, rfl⟩ := e
   have h1 := h.1
   split at h1
   ·rename_i c' hc
    have : c' = b := by simpa using h1
    subst this
    exact knownT_sound hc hpc
   ·cases h1
  ·exact hasAll_sound hpc h.2 t b hm
theorem lemT_sound {pc : List (Tm × Bool)} (hpc : ∀ t b, (t, b) ∈ pc → IsSo ν t b) {t : Tm} {b : Bool} {n : Int} (hn : denT ν t = some (.n n)) : ∀ {lm : List Lem}, LemOk lm → lemT pc t lm = some b → decide (n ≠ 0) = b
 | [], _, h => by cases h
 | e :: r, hl, h => by
  unfold lemT at h
  have hr : LemOk r := fun e' he' => hl e' (List.mem_cons_of_mem _ he')
  split at h
  ·exact lemT_sound hpc hn hr h
  ·rename_i he
   split at h
   ·rename_i ha
    injection h with h
    subst h
    rw [← eqTm_eq he] at hn
    exact hl e (List.mem_cons_self ..) ν (hasAll_sound hpc ha) n hn
   ·exact lemT_sound hpc hn hr h
theorem dec_b01 (c : Bool) : ∀ n, Dat.n n = b01 c → decide (n ≠ 0) = c := fun n h => by
 injection h with h
 subst h
 cases c <;> rfl
theorem decS_sound {lm : List Lem} (hl : LemOk lm) {pc : List (Tm × Bool)} (hpc : ∀ t b, (t, b) ∈ pc → IsSo ν t b) : ∀ (d : Nat) {t : Tm} {b : Bool} {n : Int}, decS d lm pc t = some b → denT ν t = some (.n n) → decide (n ≠ 0) = b
 | 0, _, _, _, h, _ => by cases h
 | d + 1, t, b, n, h, hn => by
  unfold decS at h
  split at h
  ·rename_i c hc
   injection h with h
   subst h
   obtain ⟨m, h1, h2⟩ := knownT_sound hc hpc
   rw [hn] at h1
   injection h1 with h1
   injection h1 with h1
   rw [h1]
   exact h2
  ·split at h
   ·rename_i c hc
    injection h with h
    subst h
    exact lemT_sound hpc hn hl hc
   ·split at h
    ·rename_i m
     simp only [denT, Option.some.injEq, Dat.n.injEq] at hn
     subst hn
     injection h with h
     rw [← h, intEq_iff]
     simp
    ·rename_i o k a c
     obtain ⟨x, y, h1, h2, h3⟩ := den_bin.1 hn
     have := cmpT_sound h (bndS_sound hpc _ h1) (bndS_sound hpc _ h2)
     rw [binZ_cmp this] at h3
     injection h3 with h3
     injection h3 with h3
     subst h3
     cases b <;> rfl
    ·split at h
     ·rename_i a ha
      rw [un_spec ha] at hn
      obtain ⟨m, h1, h2⟩ := den_f10.1 hn
      cases hd : decS d lm pc a with
      | none => rw [hd] at h; cases h
      | some c =>
       rw [hd] at h
       simp only [notO, Option.some.injEq] at h
       subst h
       have := decS_sound hl hpc d hd h1
       rw [dec_b01 _ _ h2, ← this]
       by_cases hm : m = 0 <;> simp [hm]
     ·split at h
      ·rename_i a c ha
       rw [bi_spec ha] at hn
       obtain ⟨x, y, h1, h2, h3⟩ := den_f5.1 hn
       rw [dec_b01 _ _ h3]
       have e1 : (x != 0) = decide (x ≠ 0) := by by_cases hx : x = 0 <;> simp [hx]
       have e2 : (y != 0) = decide (y ≠ 0) := by by_cases hy : y = 0 <;> simp [hy]
       rw [e1, e2]
       cases hd : decS d lm pc a with
       | none =>
        rw [hd] at h
        cases hd2 : decS d lm pc c with
        | none => rw [hd2] at h; cases h
        | some q =>
         rw [hd2] at h
         rw [decS_sound hl hpc d hd2 h2]
         cases q <;> simp only [andO, Option.some.injEq] at h <;> first | (cases h; done) | (subst h; simp)
       | some p =>
        rw [hd] at h
        rw [decS_sound hl hpc d hd h1]
        cases p
        ·simp only [andO, Option.some.injEq] at h
         subst h
         simp
        ·cases hd2 : decS d lm pc c with
         | none => rw [hd2] at h; cases h
         | some q =>
          rw [hd2] at h
          rw [decS_sound hl hpc d hd2 h2]
          cases q <;> simp only [andO, Option.some.injEq] at h <;> subst h <;> rfl
      ·cases h
theorem decL_sound {lm : List Lem} (hl : LemOk lm) {pc : List (Tm × Bool)} (hpc : ∀ t b, (t, b) ∈ pc → IsSo ν t b) {t : Tm} {b : Bool} {n : Int} (h : decL lm pc t = some b) (hn : denT ν t = some (.n n)) : decide (n ≠ 0) = b := decS_sound hl hpc 12 h hn
theorem pcAdd_sound : ∀ (d : Nat) {t : Tm} {b : Bool} {pc : List (Tm × Bool)}, IsSo ν t b → (∀ t b, (t, b) ∈ pc → IsSo ν t b) → ∀ u c, (u, c) ∈ pcAdd d t b pc → IsSo ν u c
 | 0, t, b, pc, h, hpc, u, c, hm => by
  rcases List.mem_cons.1 hm with e | hm
  ·simp only [Prod.mk.injEq] at e
   obtain ⟨rfl, rfl⟩ := e
   exact h
  ·exact hpc u c hm
 | d + 1, t, b, pc, h, hpc, u, c, hm => by
  unfold pcAdd at hm
  split at hm
  ·rename_i a ha
   rcases List.mem_cons.1 hm with e | hm
   ·simp only [Prod.mk.injEq] at e
    obtain ⟨rfl, rfl⟩ := e
    exact h
   ·obtain ⟨n, h1, h2⟩ := h
    rw [un_spec ha] at h1
    obtain ⟨m, h3, h4⟩ := den_f10.1 h1
    refine pcAdd_sound d ⟨m, h3, ?_⟩ hpc u c hm
    rw [dec_b01 _ _ h4] at h2
    rw [← h2]
    by_cases hm : m = 0 <;> simp [hm]
  ·split at hm
   ·rename_i x y hb
    rcases List.mem_cons.1 hm with e | hm
    ·simp only [Prod.mk.injEq] at e
     obtain ⟨rfl, rfl⟩ := e
     exact h
    ·obtain ⟨n, h1, h2⟩ := h
     rw [bi_spec hb] at h1
     obtain ⟨p, q, h3, h4, h5⟩ := den_f5.1 h1
     rw [dec_b01 _ _ h5] at h2
     simp only [Bool.and_eq_true, bne_iff_ne] at h2
     exact pcAdd_sound d ⟨p, h3, by simp [h2.1]⟩ (fun t b ht => pcAdd_sound d ⟨q, h4, by simp [h2.2]⟩ hpc t b ht) u c hm
   ·rcases List.mem_cons.1 hm with e | hm
    ·simp only [Prod.mk.injEq] at e
     obtain ⟨rfl, rfl⟩ := e
     exact h
    ·exact hpc u c hm
end
end Go.Proofs.YtcjbpaiomcfgnaaGreatDoor
namespace Go.Proofs.YtcjbpaiomcfgnaaGreatDoor
open Go Go.RowKit
section
variable {P : Program} {w0 w : World} {A : Anch} {ν : Nm} {s : St} {T : Tr AV} {N : Nat} {a : Act} {lm : List Lem}
mutual
noncomputable def cz (ν : Nm) : AV → AV
 | .sym k t => match denT ν t with
  | some (.n n) => .int k n
  | _ => .sym k t
 | .symS t => match denT ν t with
  | some (.s l) => .str l
  | _ => .symS t
 | .agg l => .agg (czL ν l)
 | v => v
noncomputable def czL (ν : Nm) : List AV → List AV
 | [] => []
 | v :: l => cz ν v :: czL ν l
end
theorem czL_map (ν : Nm) : ∀ l : List AV, czL ν l = l.map (cz ν)
 | [] => rfl
 | v :: l => by simp [czL, czL_map ν l]
mutual
theorem den_cz (ν : Nm) : ∀ (v : AV), den ν (cz ν v) = den ν v
 | .sym k t => by
  simp only [cz]
  split
  ·rename_i n h
   simp only [den, h]
  ·rfl
 | .symS t => by
  simp only [cz]
  split
  ·rename_i l h
   simp only [den, h]
  ·rfl
 | .agg l => by simp only [cz, den, denL_cz ν l]
 | .bool _ | .int _ _ | .str _ | .nptr | .ptr _ _ | .nslice | .slice _ _ _ _ | .nmap | .map _ | .func _ _ _ | .nfunc | .iface _ _ | .niface | .tup _ | .ext _ | .glob _ _ | .symB _ | .tail _ _ _ _ _ _ | .deep _ _ | .dptr _ _ _ _ _ | .sslice _ _ _ => rfl
theorem denL_cz (ν : Nm) : ∀ (l : List AV), denL ν (czL ν l) = denL ν l
 | [] => rfl
 | v :: l => by simp only [czL, denL, den_cz ν v, denL_cz ν l]
end
theorem cz_sym {k : IntKind} {t : Tm} {n : Int} (h : denT ν t = some (.n n)) : cz ν (.sym k t) = .int k n := by simp only [cz, h]
theorem cz_symS {t : Tm} {l : List UInt8} (h : denT ν t = some (.s l)) : cz ν (.symS t) = .str l := by simp only [cz, h]
theorem cutL_cz {l : List AV} {off n : Nat} {r : List AV} (h : cutL l off n = some r) : cutL (czL ν l) off n = some (czL ν r) := by
 simp only [cutL] at h ⊢
 split at h
 ·rename_i hb
  injection h with h
  subst h
  rw [czL_map, czL_map]
  simp only [← List.map_drop, ← List.map_take, List.length_map]
  rw [hb]
 ·cases h
theorem partA_cz {t : TypeId} {cs : List AV} {off : Nat} {v : AV} (h : partA P t cs off = some v) : partA P t (czL ν cs) off = some (cz ν v) := by
 unfold partA at h ⊢
 split at h
 ·split at h
  ·rw [Option.map_eq_some_iff] at h ⊢
   obtain ⟨r, h1, rfl⟩ := h
   exact ⟨_, cutL_cz h1, by simp [cz]⟩
  ·cases h
 ·rw [czL_map, List.getElem?_map, h]
  rfl
 ·cases h
theorem tm_cz {x : AV} {X : Value} {k : IntKind} {u : Tm} (h : tmOf x = some (k, u)) (hx : den ν x = some X) : ∃ n, denT ν u = some (.n n) ∧ cz ν x = .int k n := by
 obtain ⟨n, h1, h2⟩ := tmOf_den h hx
 unfold tmOf at h
 split at h
 ·simp only [Option.some.injEq, Prod.mk.injEq] at h
  obtain ⟨rfl, rfl⟩ := h
  simp only [denT, Option.some.injEq, Dat.n.injEq] at h1
  subst h1
  exact ⟨_, rfl, rfl⟩
 ·simp only [Option.some.injEq, Prod.mk.injEq] at h
  obtain ⟨rfl, rfl⟩ := h
  exact ⟨n, h1, cz_sym h1⟩
 ·cases h
theorem bytesTm_den (ν : Nm) (l : List UInt8) : denT ν (bytesTm l) = some (.s l) := by
 have key : ∀ l : List UInt8, ∃ ds, denTs ν (l.map fun b => Tm.c (.ofNat b.toNat)) = some ds ∧ bytesD ds = some l := by
  intro l
  induction l with
  | nil => exact ⟨[], rfl, rfl⟩
  | cons b l ih =>
   obtain ⟨ds, h1, h2⟩ := ih
   refine ⟨.n b.toNat :: ds, ?_, ?_⟩
   ·simp only [List.map_cons, denTs, denT, h1]
    rfl
   ·have hb := b.toNat_lt
    have h3 : (decide (0 ≤ ((b.toNat : Nat) : Int)) && decide (((b.toNat : Nat) : Int) < 256)) = true := by
     simp only [Bool.and_eq_true, decide_eq_true_eq]
     omega
    simp only [bytesD, h2, h3]
    simp
 obtain ⟨ds, h1, h2⟩ := key l
 exact den_f3.2 ⟨ds, l, h1, h2, rfl⟩
theorem txt_cz {x : AV} {X : Value} {u : Tm} (h : txtOf x = some u) (hx : den ν x = some X) : ∃ l, denT ν u = some (.s l) ∧ cz ν x = .str l ∧ X = .string ⟨l.toArray⟩ := by
 unfold txtOf at h
 split at h
 ·rename_i l
  injection h with h
  subst h
  simp only [den, Option.some.injEq] at hx
  exact ⟨l, bytesTm_den ν l, rfl, hx.symm⟩
 ·rename_i t
  injection h with h
  subst h
  simp only [den] at hx
  split at hx
  ·rename_i l hl
   injection hx with hx
   exact ⟨l, hl, cz_symS hl, hx.symm⟩
  ·cases hx
 ·cases h
theorem n_b01 (b : Bool) : b01 b = .n (if b = true then 1 else 0) := rfl
theorem andT_den {p q : Tm} {x y : Bool} (hp : denT ν p = some (b01 x)) (hq : denT ν q = some (b01 y)) : denT ν (andT p q) = some (b01 (x && y)) := by
 have gen : denT ν (.f 5 [p, q]) = some (b01 (x && y)) := by
  refine den_f5.2 ⟨_, _, hp, hq, ?_⟩
  cases x <;> cases y <;> rfl
 unfold andT
 split
 ·rename_i n
  split
  ·rename_i hn
   have := intEq_eq hn
   subst this
   simp only [denT, Option.some.injEq] at hq
   have : y = true := by cases y <;> first | rfl | cases hq
   subst this
   rw [hp]
   cases x <;> rfl
  ·exact gen
 ·exact gen
theorem eqNT_den {k : IntKind} {p q : Tm} {x y : Int} (hp : denT ν p = some (.n x)) (hq : denT ν q = some (.n y)) : denT ν (eqNT k p q) = some (b01 (intEq x y)) := by
 unfold eqNT
 split
 ·rename_i m n
  simp only [denT, Option.some.injEq, Dat.n.injEq] at hp hq
  subst hp hq
  cases h : intEq m n <;> rfl
 ·rw [den_bin.2 ⟨x, y, hp, hq, rfl⟩]
  rfl
theorem eqSF_sound {E : TypeId → AV → AV → Option Tm} {F : TypeId → AV → AV → Option Bool} (hE : ∀ t x y q X Y, E t x y = some q → den ν x = some X → den ν y = some Y → ∃ b, F t (cz ν x) (cz ν y) = some b ∧ denT ν q = some (b01 b)) {xs ys : List AV} {XS YS : List Value}
  (hx : denL ν xs = some XS) (hy : denL ν ys = some YS) : ∀ (fs : List Field) {q : Tm}, eqSF P E xs ys fs = some q → ∃ b, eqFieldsA P F (czL ν xs) (czL ν ys) fs = some b ∧ denT ν q = some (b01 b)
 | [], q, h => by
  simp only [eqSF, Option.some.injEq] at h
  subst h
  exact ⟨true, rfl, rfl⟩
 | f :: fs, q, h => by
  unfold eqSF at h
  unfold eqFieldsA
  split at h
  ·exact eqSF_sound hE hx hy fs h
  ·split at h
   ·rename_i x y h1 h2
    rw [partA_cz (ν := ν) h1, partA_cz (ν := ν) h2]
    simp only
    split at h
    ·rename_i p r h3 h4
     injection h with h
     subst h
     obtain ⟨X, k1, _⟩ := run_part (P := P) (w := default) hx h1
     obtain ⟨Y, k2, _⟩ := run_part (P := P) (w := default) hy h2
     obtain ⟨b, k3, k4⟩ := hE _ _ _ _ _ _ h3 k1 k2
     obtain ⟨c, k5, k6⟩ := eqSF_sound hE hx hy fs h4
     rw [k3]
     refine ⟨b && c, ?_, andT_den k4 k6⟩
     cases b
     ·rfl
     ·simpa using k5
    ·cases h
   ·cases h
theorem eqSE_sound {E : AV → AV → Option Tm} {F : AV → AV → Option Bool} {e : TypeId} {size : Nat} (hE : ∀ x y q X Y, E x y = some q → den ν x = some X → den ν y = some Y → ∃ b, F (cz ν x) (cz ν y) = some b ∧ denT ν q = some (b01 b)) {xs ys : List AV} {XS YS : List Value}
  (hx : denL ν xs = some XS) (hy : denL ν ys = some YS) : ∀ (n i : Nat) {q : Tm}, eqSE P E e size xs ys n i = some q → ∃ b, eqElemsA P F e size (czL ν xs) (czL ν ys) n i = some b ∧ denT ν q = some (b01 b)
 | 0, _, q, h => by
  simp only [eqSE, Option.some.injEq] at h
  subst h
  exact ⟨true, rfl, rfl⟩
 | n + 1, i, q, h => by
  unfold eqSE at h
  unfold eqElemsA
  split at h
  ·rename_i x y h1 h2
   rw [partA_cz (ν := ν) h1, partA_cz (ν := ν) h2]
   simp only
   split at h
   ·rename_i p r h3 h4
    injection h with h
    subst h
    obtain ⟨X, k1, _⟩ := run_part (P := P) (w := default) hx h1
    obtain ⟨Y, k2, _⟩ := run_part (P := P) (w := default) hy h2
    obtain ⟨b, k3, k4⟩ := hE _ _ _ _ _ h3 k1 k2
    obtain ⟨c, k5, k6⟩ := eqSE_sound hE hx hy n (i + 1) h4
    rw [k3]
    refine ⟨b && c, ?_, andT_den k4 k6⟩
    cases b
    ·rfl
    ·simpa using k5
   ·cases h
  ·cases h
theorem eqS_sound : ∀ (d : Nat) (t : TypeId) (x y : AV) (q : Tm) (X Y : Value), eqS P d t x y = some q → den ν x = some X → den ν y = some Y → ∃ b, eqA P d t (cz ν x) (cz ν y) = some b ∧ denT ν q = some (b01 b)
 | 0, _, _, _, _, _, _, h, _, _ => by cases h
 | d + 1, t, x, y, q, X, Y, h, hx, hy => by
  unfold eqS at h
  unfold eqA
  split at h
  ·rename_i k hu
   rw [hu]
   simp only
   split at h
   ·rename_i k1 p k2 r h1 h2
    split at h
    ·rename_i hk
     injection h with h
     subst h
     obtain ⟨m, e1, e2⟩ := tm_cz h1 hx
     obtain ⟨n, e3, e4⟩ := tm_cz h2 hy
     rw [e2, e4]
     simp only [hk]
     exact ⟨_, rfl, eqNT_den e1 e3⟩
    ·cases h
   ·cases h
  ·rename_i hu
   rw [hu]
   simp only
   split at h
   ·rename_i p r h1 h2
    injection h with h
    subst h
    obtain ⟨l, e1, e2, _⟩ := txt_cz h1 hx
    obtain ⟨m, e3, e4, _⟩ := txt_cz h2 hy
    rw [e2, e4]
    refine ⟨_, rfl, ?_⟩
    rw [den_f4.2 ⟨_, _, e1, e3, rfl⟩, bytesEq_spec]
   ·cases h
  ·rename_i fields hu
   rw [hu]
   simp only
   split at h
   ·rename_i xs ys
    split at h
    ·cases h
    ·rename_i hs
     obtain ⟨XS, hX, _⟩ := agg_den hx
     obtain ⟨YS, hY, _⟩ := agg_den hy
     simp only [cz, hs]
     exact eqSF_sound (fun t x y q X Y => eqS_sound d t x y q X Y) hX hY _ h
   ·cases h
  ·rename_i len e hu
   rw [hu]
   simp only
   split at h
   ·rename_i xs ys
    split at h
    ·rename_i n hs
     obtain ⟨XS, hX, _⟩ := agg_den hx
     obtain ⟨YS, hY, _⟩ := agg_den hy
     simp only [cz, hs]
     exact eqSE_sound (fun x y q X Y => eqS_sound d e x y q X Y) hX hY _ _ h
    ·cases h
   ·cases h
  ·cases h
theorem symB_b01 {q : Tm} {b : Bool} (h : denT ν q = some (b01 b)) : den ν (.symB q) = some (.bool b) := by
 simp only [den, h, n_b01]
 cases b <;> rfl
theorem notT_den {q : Tm} {b : Bool} (h : denT ν q = some (b01 b)) : denT ν (notT q) = some (b01 (!b)) := by
 have gen : denT ν (.f 10 [q]) = some (b01 (!b)) := by
  refine den_f10.2 ⟨_, h, ?_⟩
  cases b <;> rfl
 unfold notT
 split
 ·rename_i k p r
  obtain ⟨x, y, h1, h2, h3⟩ := den_bin.1 h
  refine den_bin.2 ⟨x, y, h1, h2, ?_⟩
  rw [binZ_cmp (q := decide (x = y)) rfl] at h3
  rw [binZ_cmp (q := !decide (x = y)) rfl]
  cases hd : decide (x = y) <;> rw [hd] at h3 <;> cases b <;> first | rfl | (injection h3 with h3; injection h3 with h3; simp at h3)
 ·exact gen
theorem len_den {t : Tm} {l : List UInt8} (h : denT ν t = some (.s l)) : denT ν (.f 0 [t]) = some (.n l.length) := den_f0.2 ⟨_, _, h, rfl, rfl⟩
theorem bnd_sound (hpc : ∀ t b, (t, b) ∈ s.x.pc → IsSo ν t b) {t : Tm} {z : Int} (h : denT ν t = some (.n z)) : Bd (bnd s t) z := bndS_sound hpc _ h
theorem subLen_den (hpc : ∀ t b, (t, b) ∈ s.x.pc → IsSo ν t b) {i j : Tm} {m n : Int} (hi : denT ν i = some (.n m)) (hj : denT ν j = some (.n n)) : denT ν (subLen s i j) = some (.n (n - m)) := by
 have gen : denT ν (.f 12 [i, j]) = some (.n (n - m)) := den_f12.2 ⟨m, n, hi, hj, rfl⟩
 unfold subLen
 split
 ·rename_i k p r
  split
  ·rename_i hc
   simp only [Bool.and_eq_true] at hc
   have := eqTm_eq hc.1
   subst this
   obtain ⟨x, y, h1, h2, h3⟩ := den_bin.1 hj
   rw [hi] at h1
   injection h1 with h1
   injection h1 with h1
   subst h1
   simp only [binZ, intBinA, Option.some.injEq, Dat.n.injEq] at h3
   rw [inK_wrap hc.2 (bd_add (bnd_sound hpc hi) (bnd_sound hpc h2))] at h3
   rw [h2, ← h3]
   congr 2
   omega
  ·exact gen
 ·exact gen
theorem lenTm_den (hpc : ∀ t b, (t, b) ∈ s.x.pc → IsSo ν t b) {t : Tm} {l : List UInt8} (h : denT ν t = some (.s l)) : denT ν (lenTm s t) = some (.n l.length) := by
 unfold lenTm
 split
 ·rename_i l3 h3
  rw [li_spec h3] at h
  obtain ⟨ds, bs, h4, h5, h6⟩ := den_f3.1 h
  injection h6 with h6
  subst h6
  rw [bytesD_len h5, denTs_len h4]
  rfl
 ·split
  ·rename_i p i j h3
   rw [li_spec h3] at h
   obtain ⟨x, m, n, h4, h5, h6, h7, h8, h9, h10⟩ := den_f8.1 h
   injection h10 with h10
   subst h10
   rw [subLen_den hpc h5 h6]
   simp only [List.length_take, List.length_drop]
   congr 2
   omega
  ·exact len_den h
theorem catT_den {p q : Tm} {x y : List UInt8} (hp : denT ν p = some (.s x)) (hq : denT ν q = some (.s y)) : denT ν (catT p q) = some (.s (x ++ y)) := by
 have nil : ∀ {u : Tm} {z : List UInt8}, li 3 u = some [] → denT ν u = some (.s z) → z = [] := fun h1 h2 => by
  rw [li_spec h1] at h2
  obtain ⟨ds, bs, h4, h5, h6⟩ := den_f3.1 h2
  simp only [denTs, Option.some.injEq] at h4
  subst h4
  simp only [bytesD, Option.some.injEq] at h5
  subst h5
  injection h6
 unfold catT
 split
 ·rename_i h
  rw [nil h hp, List.nil_append]
  exact hq
 ·split
  ·rename_i h
   rw [nil h hq, List.append_nil]
   exact hp
  ·exact den_f2.2 (.inl ⟨_, _, hp, hq, rfl⟩)
theorem sure_spec (hL : LemOk lm) (hpc : ∀ t b, (t, b) ∈ s.x.pc → IsSo ν t b) {o : BinOp} {k : IntKind} {p q : Tm} {x y : Int} {c : Bool} (hp : denT ν p = some (.n x)) (hq : denT ν q = some (.n y)) (hc : cmpZ o x y = some c) (h : sureB lm s (.bin o k p q) = true) : c = true := by
 unfold sureB at h
 split at h
 ·rename_i hd
  have := decL_sound hL hpc hd (den_bin.2 ⟨x, y, hp, hq, binZ_cmp hc⟩)
  cases c
  ·simp at this
  ·rfl
 ·cases h
theorem eqDT_rel (hpc : ∀ t b, (t, b) ∈ s.x.pc → IsSo ν t b) {t : TypeId} {x y : AV} {X Y : Value} {q : Tm} (h : eqDT P s t x y = some q) (hx : den ν x = some X) (hy : den ν y = some Y) :
  ∃ b, denT ν q = some (b01 b) ∧ binA P .eql t (cz ν x) (cz ν y) = some (.bool b) ∧ binA P .neq t (cz ν x) (cz ν y) = some (.bool (!b)) := by
 unfold eqDT at h
 split at h
 ·rename_i p r _ h1 h2
  obtain ⟨l, e1, e2, e5⟩ := txt_cz h1 hx
  obtain ⟨m, e3, e4, e6⟩ := txt_cz h2 hy
  have str : ∀ b, bytesEq l m = b → binA P .eql t (cz ν x) (cz ν y) = some (.bool b) ∧ binA P .neq t (cz ν x) (cz ν y) = some (.bool (!b)) := fun b hb => by
   rw [e2, e4]
   simp only [binA, strBinA, hb]
   exact ⟨trivial, trivial⟩
  have len0 : ∀ {u : Tm} {z : List UInt8}, denT ν u = some (.s z) → denT ν (.bin .eql .i64 (lenTm s u) (.c 0)) = some (b01 (decide (z = []))) := fun {u z} hz => by
   refine den_bin.2 ⟨_, 0, lenTm_den hpc hz, rfl, ?_⟩
   rw [binZ_cmp (q := decide (z = [])) ?_]
   ·rfl
   ·simp only [cmpZ]
    congr 1
    rw [decide_eq_decide]
    rw [← List.length_eq_zero_iff]
    omega
  split at h
  ·injection h with h
   subst h
   have : l = [] := by
    simp only [den, Option.some.injEq] at hx
    rw [e5] at hx
    simpa using hx.symm
   subst this
   refine ⟨_, len0 e3, str _ ?_⟩
   rw [bytesEq_spec]
   cases m <;> simp
  ·injection h with h
   subst h
   have : m = [] := by
    simp only [den, Option.some.injEq] at hy
    rw [e6] at hy
    simpa using hy.symm
   subst this
   refine ⟨_, len0 e1, str _ ?_⟩
   rw [bytesEq_spec]
   cases l <;> simp
  ·injection h with h
   subst h
   exact ⟨_, den_f4.2 ⟨_, _, e1, e3, rfl⟩, str _ (bytesEq_spec l m)⟩
 ·cases h
 ·split at h
  ·rename_i hc
   simp only [Bool.and_eq_true, Bool.not_eq_true'] at hc
   obtain ⟨b, h1, h2⟩ := eqS_sound 12 t x y q X Y h hx hy
   refine ⟨b, h2, ?_⟩
   have hagg := hc.1
   unfold isAgg2 at hagg
   split at hagg
   ·simp only [cz] at h1 ⊢
    simp only [binA, hc.2, h1]
    exact ⟨rfl, rfl⟩
   ·cases hagg
  ·cases h
theorem binD_rel (hpc : ∀ t b, (t, b) ∈ s.x.pc → IsSo ν t b) {op : BinOp} {t : TypeId} {x y v : AV} {X Y : Value} (h : binD P s op t x y = some v) (hx : den ν x = some X) (hy : den ν y = some Y) (xo yo : Operand) (w : World) :
  ∃ V, den ν v = some V ∧ (Sem.bind (eqGuard op t xo yo X Y) fun _ => binOp op t X Y).run P w = .ok V w := by
 have go : ∀ {x' y' u : AV}, den ν x' = some X → den ν y' = some Y → binA P op t x' y' = some u → (∀ V, den ν u = some V → den ν v = some V) → ∃ V, den ν v = some V ∧ (Sem.bind (eqGuard op t xo yo X Y) fun _ => binOp op t X Y).run P w = .ok V w := fun hx' hy' hu hv => by
  obtain ⟨V, h1, h2⟩ := binA_rel (ν := ν) hu hx' hy' xo yo w
  exact ⟨V, hv V h1, h2⟩
 have hcx : den ν (cz ν x) = some X := (den_cz ν x).trans hx
 have hcy : den ν (cz ν y) = some Y := (den_cz ν y).trans hy
 unfold binD at h
 split at h
 ·split at h
  ·rename_i q hq
   injection h with h
   subst h
   obtain ⟨b, h1, h2, _⟩ := eqDT_rel hpc hq hx hy
   exact go hcx hcy h2 fun V hV => by
    simp only [den, Option.some.injEq] at hV
    subst hV
    exact symB_b01 h1
  ·cases h
 ·split at h
  ·rename_i q hq
   injection h with h
   subst h
   obtain ⟨b, h1, _, h2⟩ := eqDT_rel hpc hq hx hy
   exact go hcx hcy h2 fun V hV => by
    simp only [den, Option.some.injEq] at hV
    subst hV
    exact symB_b01 (notT_den h1)
  ·cases h
 ·split at h
  ·rename_i p r _ h1 h2
   split at h
   ·rename_i hle
    injection h with h
    subst h
    obtain ⟨l, e1, e2, _⟩ := txt_cz h1 hx
    obtain ⟨m, e3, e4, _⟩ := txt_cz h2 hy
    have hb := leO_le (x := (l.length : Int) + m.length) (y := lenMost) hle (fun c hc => (bd_add (bnd_sound hpc (len_den e1)) (bnd_sound hpc (len_den e3))).2 c hc) (fun c hc => by injection hc with hc; omega)
    refine go (u := .str (l ++ m)) hcx hcy ?_ fun V hV => ?_
    ·rw [e2, e4]
     simp only [binA, strBinA]
     have : decide (((l.length + m.length : Nat) : Int) > IntKind.i64.max) = false := by
      rw [decide_eq_false_iff_not]
      unfold lenMost at hb
      have : IntKind.i64.max = 9223372036854775807 := by decide
      omega
     rw [this]
    ·simp only [den, Option.some.injEq] at hV
     subst hV
     simp only [den, catT_den e1 e3]
   ·cases h
  ·cases h
 ·split at h
  ·rename_i k p l m
   split at h
   ·rename_i hc
    simp only [Bool.and_eq_true, Bool.not_eq_true'] at hc
    injection h with h
    subst h
    obtain ⟨n, h1, h2⟩ := sym_den hx
    refine go (x' := .int k n) (y' := .int l m) (by rw [h2]; rfl) hy (by simp only [binA, hc.1, intBinA, hc.2]; rfl) fun V hV => ?_
    simp only [den, Option.some.injEq] at hV
    subst hV
    simp only [den, denT, h1, binZ, intBinA, hc.2]
   ·cases h
  ·cases h
 ·split at h
  ·rename_i k p l m
   split at h
   ·rename_i hc
    simp only [Bool.and_eq_true, Bool.not_eq_true'] at hc
    injection h with h
    subst h
    obtain ⟨n, h1, h2⟩ := sym_den hx
    refine go (x' := .int k n) (y' := .int l m) (by rw [h2]; rfl) hy (by simp only [binA, hc.1, intBinA, hc.2]; rfl) fun V hV => ?_
    simp only [den, Option.some.injEq] at hV
    subst hV
    simp only [den, denT, h1, binZ, intBinA, hc.2]
   ·cases h
  ·cases h
 ·split at h
  ·rename_i k p l m
   injection h with h
   subst h
   obtain ⟨n, h1, h2⟩ := sym_den hx
   have hneg : decide (Int.ofNat m < 0) = false := by simp
   refine go (x' := .int k n) (y' := .int l (.ofNat m)) (u := .int k (n.fdiv (2 ^ (min m k.bits)))) (by rw [h2]; rfl) hy (by simp only [binA, shiftA, hneg]; rfl) fun V hV => ?_
   simp only [den, Option.some.injEq] at hV
   subst hV
   simp only [den]
   rw [den_f6.2 ⟨n, _, h1, rfl, rfl⟩]
   rfl
  ·cases h
 ·split at h
  ·rename_i k p l m
   injection h with h
   subst h
   obtain ⟨n, h1, h2⟩ := sym_den hx
   have hneg : decide (Int.ofNat m < 0) = false := by simp
   refine go (x' := .int k n) (y' := .int l (.ofNat m)) (u := .int k (k.wrap (n * 2 ^ (min m k.bits)))) (by rw [h2]; rfl) hy (by simp only [binA, shiftA, hneg]; rfl) fun V hV => ?_
   simp only [den, Option.some.injEq] at hV
   subst hV
   simp only [den]
   rw [den_conv.2 ⟨_, den_f7.2 ⟨n, _, h1, rfl, rfl⟩, rfl⟩]
   rfl
  ·cases h
 ·cases h
theorem symOf_den {x : AV} {X : Value} {u : Tm} (h : symOf x = some u) (hx : den ν x = some X) : ∃ k n, denT ν u = some (.n n) ∧ X = .int k n := by
 unfold symOf at h
 split at h
 ·injection h with h
  subst h
  simp only [den, Option.some.injEq] at hx
  exact ⟨_, _, rfl, hx.symm⟩
 ·injection h with h
  subst h
  obtain ⟨n, h1, h2⟩ := sym_den hx
  exact ⟨_, n, h1, h2⟩
 ·cases h
theorem deep_den {e : TypeId} {t : Tm} {V : Value} (h : den ν (.deep e t) = some V) : ∃ xs, denT ν t = some (.r e V xs) ∧ V.oneCell' = true := by
 simp only [den] at h
 split at h
 ·rename_i e' v xs ht
  split at h
  ·rename_i hc
   injection h with h
   subst h
   obtain ⟨rfl, h1⟩ := hc
   exact ⟨xs, ht, h1⟩
  ·cases h
 ·cases h
theorem run_len_any {t ty e : TypeId} {w : World} (hu : P.underlying t = some (.slice e)) (rest : List TypeId) (a : Option Addr) (n cap : Nat) : (Builtin.len_ (t :: rest).toArray ty #[.slice a n cap]).run P w = .ok (.int .i64 n) w := by
 unfold Builtin.len_
 simp only [List.getElem?_toArray, List.getElem?_cons_zero, bind]
 rw [run_bind, run_underlying hu]
 rfl
theorem row_shape {z : Nat → Option Obj} {e : TypeId} {V : Value} {xs : List Dat} (h : DatOk P z (.r e V xs)) : ((V = .slice none 0 0 ∨ ∃ a cap, V = .slice (some a) 0 cap) ∧ xs = []) ∨ ∃ g off cap, V = .slice (some ⟨g, off, none⟩) xs.length cap ∧ xs.length ≤ cap := by
 rcases h with h | ⟨g, off, cap, size, arr, fz, ts, tb, h1, h2, h3, h4, h5, h6, h7, h8, h9⟩
 ·exact .inl h
 ·exact .inr ⟨g, off, cap, h1, h7⟩
theorem indexD_rel (hL : LemOk lm) (hpc : ∀ t b, (t, b) ∈ s.x.pc → IsSo ν t b) (hdat : ∀ i d, ν.x i = some d → DatOk P ν.z d) {t : TypeId} {x i v : AV} {X I : Value} (h : indexD P lm s t x i = some v) (hx : den ν x = some X) (hi : den ν i = some I) (w : World) :
  ∃ V, den ν v = some V ∧ (Instr.indexAt t X I).run P w = .ok V w := by
 unfold indexD at h
 split at h
 ·rename_i e e' tm it hu hs
  split at h
  ·rename_i z hc hz
   injection h with h
   subst h
   simp only [Bool.and_eq_true] at hc
   obtain ⟨⟨h1, h2⟩, h3⟩ := hc
   have := Nat.eq_of_beq_eq_true h1
   subst this
   obtain ⟨xs, h4, _⟩ := deep_den hx
   obtain ⟨k, n, h5, rfl⟩ := symOf_den hs hi
   have hlen : denT ν (.f 0 [tm]) = some (.n xs.length) := den_f0.2 ⟨_, _, h4, rfl, rfl⟩
   have g1 := sure_spec hL hpc h5 (show denT ν (.c 0) = some (.n 0) from rfl) rfl h2
   have g2 := sure_spec hL hpc h5 hlen rfl h3
   simp only [decide_eq_true_eq] at g1 g2
   obtain ⟨m, rfl⟩ := Int.eq_ofNat_of_zero_le g1
   have hlt : m < xs.length := by omega
   rcases row_shape (denT_ok hdat h4) with ⟨_, rfl⟩ | ⟨g, off, cap, rfl, hle⟩
   ·simp at hlt
   refine ⟨.pointer (some ⟨g, off + m * z, none⟩), ?_, indexAt_slice hu hlt hz w⟩
   simp only [den, h4, h5]
   rw [if_pos ⟨trivial, by omega, by simpa using hlt⟩]
   simp
  ·cases h
 ·cases h
theorem byteD_rel (hL : LemOk lm) (hpc : ∀ t b, (t, b) ∈ s.x.pc → IsSo ν t b) {t : TypeId} {x i v : AV} {X I : Value} (h : byteD P lm s t x i = some v) (hx : den ν x = some X) (hi : den ν i = some I) :
  ∃ (l : List UInt8) (k : IntKind) (j : Nat) (c : UInt8), P.underlying t = some .string ∧ X = .string ⟨l.toArray⟩ ∧ I = .int k (.ofNat j) ∧ l[j]? = some c ∧ den ν v = some (.int .u8 c.toNat) := by
 unfold byteD at h
 split at h
 ·rename_i tm it hu hs
  split at h
  ·rename_i hc
   injection h with h
   subst h
   simp only [Bool.and_eq_true] at hc
   obtain ⟨h2, h3⟩ := hc
   obtain ⟨l, h4, _, h5⟩ := txt_cz (u := tm) rfl hx
   obtain ⟨k, n, h6, rfl⟩ := symOf_den hs hi
   have g1 := sure_spec hL hpc h6 (show denT ν (.c 0) = some (.n 0) from rfl) rfl h2
   have g2 := sure_spec hL hpc h6 (lenTm_den hpc h4) rfl h3
   simp only [decide_eq_true_eq] at g1 g2
   obtain ⟨m, rfl⟩ := Int.eq_ofNat_of_zero_le g1
   have hlt : m < l.length := by omega
   refine ⟨l, k, m, l[m], hu, h5, rfl, List.getElem?_eq_getElem hlt, ?_⟩
   simp only [den]
   rw [den_f9.2 ⟨l, _, l[m], h4, h6, g1, by simp, rfl⟩]
  ·cases h
 ·cases h
theorem partD_rel (hL : LemOk lm) (hpc : ∀ t b, (t, b) ∈ s.x.pc → IsSo ν t b) {t : TypeId} {x v : AV} {X : Value} {lo hi mx : Option AV} {LO HI MX : Option Value} (hx : den ν x = some X) (h1 : optD ν lo LO) (h2 : optD ν hi HI) (h3 : optD ν mx MX) (h : partD P lm s t x lo hi mx = some v) :
  ∃ V, den ν v = some V ∧ (Instr.sliceAt t X LO HI MX).run P w = .ok V w := by
 unfold partD at h
 split at h
 ·rename_i tm hu
  split at h
  ·rename_i i j hi' hj'
   split at h
   ·rename_i hc
    injection h with h
    subst h
    simp only [Bool.and_eq_true] at hc
    obtain ⟨⟨c1, c2⟩, c3⟩ := hc
    obtain ⟨l, h4, e4, h5⟩ := txt_cz (u := tm) rfl hx
    obtain ⟨m, d1, lo', k1, k2⟩ : ∃ m, denT ν i = some (.n m) ∧ ∃ lo' : Option AV, optD ν lo' LO ∧ (0 ≤ m → ∀ h' : Nat, m ≤ h' → loB h' lo' = some m.toNat) := by
     cases lo with
     | none =>
      injection hi' with hi'
      subst hi'
      exact ⟨0, rfl, none, h1, fun _ _ _ => rfl⟩
     | some u =>
      obtain ⟨U, hU, rfl⟩ := h1
      obtain ⟨k, n, q1, rfl⟩ := symOf_den hi' hU
      refine ⟨n, q1, some (.int k n), ⟨_, rfl, rfl⟩, fun hn h' hle => ?_⟩
      obtain ⟨q, rfl⟩ := Int.eq_ofNat_of_zero_le hn
      simp only [loB, natOf]
      rw [Nat.ble_eq_true_of_le (show q ≤ h' by omega)]
      simp
    obtain ⟨n, d2, hi2, k3, k4⟩ : ∃ n, denT ν j = some (.n n) ∧ ∃ hi2 : Option AV, optD ν hi2 HI ∧ (0 ≤ n → n ≤ l.length → hiB l.length (.k l.length) none hi2 = some n.toNat) := by
     cases hi with
     | none =>
      injection hj' with hj'
      subst hj'
      exact ⟨l.length, len_den h4, none, h2, fun _ _ => by simp [hiB]⟩
     | some u =>
      obtain ⟨U, hU, rfl⟩ := h2
      obtain ⟨k, n, q1, rfl⟩ := symOf_den hj' hU
      refine ⟨n, q1, some (.int k n), ⟨_, rfl, rfl⟩, fun hn hle => ?_⟩
      obtain ⟨q, rfl⟩ := Int.eq_ofNat_of_zero_le hn
      simp only [hiB, natOf, limB]
      rw [Nat.ble_eq_true_of_le (show q ≤ l.length by omega)]
      simp
    have g1 := sure_spec hL hpc d1 (show denT ν (.c 0) = some (.n 0) from rfl) rfl c1
    have g2 := sure_spec hL hpc d1 d2 rfl c2
    have g3 := sure_spec hL hpc d2 (len_den h4) rfl c3
    simp only [decide_eq_true_eq] at g1 g2 g3
    have hb : boundsA l.length (.k l.length) lo' hi2 none = some (m.toNat, n.toNat, none) := by
     simp only [boundsA, maxB, k4 (by omega) g3, k2 g1 n.toNat (by omega)]
    have hsl : sliceA P t (.str l) lo' hi2 none = some (.str ((l.drop m.toNat).take (n.toNat - m.toNat))) := by
     simp only [sliceA, hu, hb]
    obtain ⟨V, r1, r2⟩ := run_slice (P := P) (w := w) (ν := ν) (X := X) (by rw [h5]; rfl) k1 k3 h3 hsl
    refine ⟨V, ?_, r2⟩
    simp only [den, Option.some.injEq] at r1
    subst r1
    simp only [den]
    rw [den_f8.2 ⟨l, m, n, h4, d1, d2, g1, g2, g3, rfl⟩]
   ·cases h
  ·cases h
 ·cases h
theorem run_fieldD {st : TypeId} {fields : Array Field} {f : Nat} {fd : Field} {e sz : Nat} {tm it : Tm} {off n : Nat} {X : Value} (hu : P.underlying st = some (.struct fields)) (hf : fields[f]? = some fd) (hs : sizeT P fd.type = some (n + 1)) (hx : den ν (.dptr e sz tm it off) = some X) (w : World) :
  ∃ V, den ν (.dptr e sz tm it (off + fd.offset)) = some V ∧ (Instr.fieldAt st X f).run P w = .ok V w := by
 simp only [den] at hx
 split at hx
 ·rename_i e' g o q1 q2 xs k h1 h2
  split at hx
  ·rename_i hc
   injection hx with hx
   subst hx
   refine ⟨.pointer (some ⟨g, o + k.toNat * sz + off + fd.offset, none⟩), ?_, run_fieldAt hu hf hs w⟩
   simp only [den, h1, h2]
   rw [if_pos hc]
   simp [Nat.add_assoc]
  ·cases hx
 ·cases hx
theorem pureD_rel {o : Oper} (hL : LemOk lm) (hpc : ∀ t b, (t, b) ∈ s.x.pc → IsSo ν t b) (hdat : ∀ i d, ν.x i = some d → DatOk P ν.z d) (hF : FRel ν T N a.tmps) {v : AV} (h : pureD P lm s T o.op = some v) : ∃ V, den ν v = some V ∧ ∀ w, (execOp a.eval o).run P w = .ok (.value V) w := by
 apply uni
 intro w
 have fin : ∀ {x : Sem Value}, (∃ V, den ν v = some V ∧ x.run P w = .ok V w) → (execOp a.eval o = Sem.bind x fun v => Sem.pure (Next.value v)) → ∃ V, den ν v = some V ∧ (execOp a.eval o).run P w = .ok (.value V) w := fun ⟨V, h1, h2⟩ e => ⟨V, h1, by rw [e]; exact run_val h2⟩
 cases hop : o.op <;> rw [hop] at h <;> simp only [pureD] at h <;> (try (cases h; done))
 case binOp op t x y t2 =>
  split at h
  ·rename_i p q hp hq
   exact fin (binD_rel hpc h (hF.evA hp) (hF.evA hq) x y w) (by unfold execOp; rw [hop]; rfl)
  ·cases h
 case convert src dst x =>
  split at h
  ·rename_i u hx
   split at h
   ·rename_i tm h1 h2
    injection h with h
    subst h
    obtain ⟨l, h4, e4, h5⟩ := txt_cz (u := tm) rfl (hF.evA hx)
    refine fin (x := convert src dst (a.eval x)) ⟨_, hF.evA hx, ?_⟩ (by unfold execOp; rw [hop]; rfl)
    rw [h5]
    show (Sem.bind (underlying src) _).run P w = _
    rw [run_bind, run_underlying h1]
    simp only []
    show (Sem.bind (underlying dst) _).run P w = _
    rw [run_bind, run_underlying h2]
    rfl
   ·cases h
  ·cases h
 case slice t x lo hi mx =>
  split at h
  ·rename_i p l hh m hp hl hhi hm
   refine fin (x := Instr.sliceAt t (a.eval x) (lo.map a.eval) (hi.map a.eval) (mx.map a.eval)) (partD_rel hL hpc (hF.evA hp) (opt_den hF hl) (opt_den hF hhi) (opt_den hF hm) h) (by unfold execOp; rw [hop]; rfl)
  ·cases h
 case fieldAddr st x f =>
  split at h
  ·rename_i fields e sz tm it off hu hp
   split at h
   ·rename_i fd hf
    split at h
    ·cases h
    ·rename_i n hne hs
     injection h with h
     subst h
     cases n with
     | zero => exact absurd rfl hne
     | succ n => exact fin (run_fieldD hu hf hs (hF.evA hp) w) (by unfold execOp; rw [hop]; rfl)
    ·cases h
   ·cases h
  ·cases h
 case indexAddr t x ix =>
  split at h
  ·rename_i p q hp hq
   exact fin (indexD_rel hL hpc hdat h (hF.evA hp) (hF.evA hq) w) (by unfold execOp; rw [hop]; rfl)
  ·cases h
 case index t x ix =>
  split at h
  ·rename_i p q hp hq
   obtain ⟨l, k, j, c, h1, h2, h3, h4, h5⟩ := byteD_rel hL hpc h (hF.evA hp) (hF.evA hq)
   have hpa : pureA P s ((Tr.e.put 0 (some (.str l))).put 1 (some (.int k (.ofNat j)))) (.index t (.tmp 0) (.tmp 1)) = some (.int .u8 c.toNat) := by
    have e1 : ((Tr.e.put 0 (some (AV.str l))).put 1 (some (.int k (.ofNat j)))).get 0 = some (.str l) := by rw [Tr.get_put, if_neg (by decide), Tr.get_put, if_pos rfl]
    have e2 : ((Tr.e.put 0 (some (AV.str l))).put 1 (some (.int k (.ofNat j)))).get 1 = some (.int k (.ofNat j)) := by rw [Tr.get_put, if_pos rfl]
    simp only [pureA, evA, e1, e2, Option.bind_some, natOf, h1, h4]
   obtain ⟨V, k1, k2⟩ := pure0_rel (P := P) (ν := ν) (s := s) (N := 2) (a := { tmps := #[a.eval x, a.eval ix], defers := [] }) (o := { o with op := .index t (.tmp 0) (.tmp 1) }) ⟨rfl, fun i v hv => by
    rw [Tr.get_put] at hv
    split at hv
    ·rename_i e
     subst e
     injection hv with hv
     subst hv
     exact ⟨_, rfl, by rw [h3]; rfl⟩
    ·rw [Tr.get_put] at hv
     split at hv
     ·rename_i e
      subst e
      injection hv with hv
      subst hv
      exact ⟨_, rfl, by rw [h2]; rfl⟩
     ·simp [Tr.get] at hv⟩ rfl hpa
   simp only [den, Option.some.injEq] at k1
   subst k1
   refine ⟨_, h5, ?_⟩
   have := k2 w
   unfold execOp at this ⊢
   rw [hop]
   exact this
  ·cases h
 case call c =>
  split at h
  ·rename_i hb
   split at h
   ·rename_i x t hx ht
    split at h
    ·rename_i d u hu hv
     have hd := hF.evA hv
     have hargs : c.args = #[x] := by
      have := arr_of hx
      simpa using this
     have key : ∀ (n : Nat), den ν v = some (.int .i64 n) → (∀ w, (Builtin.len_ c.argTypes o.type #[a.eval x]).run P w = .ok (.int .i64 n) w) → ∃ V, den ν v = some V ∧ (execOp a.eval o).run P w = .ok (.value V) w := fun n h1 h2 => by
      refine ⟨_, h1, ?_⟩
      rw [run_builtin hop hb]
      have e : (Array.map a.eval c.args) = #[a.eval x] := by rw [hargs]; simp
      rw [e]
      exact run_val (h2 w)
     obtain ⟨rest, hrest⟩ : ∃ rest, c.argTypes = (t :: rest).toArray := by
      have hl : c.argTypes.toList[0]? = some t := by rw [Array.getElem?_toList]; exact ht
      cases hq : c.argTypes.toList with
      | nil => rw [hq] at hl; cases hl
      | cons t' rest =>
       rw [hq] at hl
       simp only [List.getElem?_cons_zero, Option.some.injEq] at hl
       subst hl
       exact ⟨rest, arr_of hq⟩
     unfold lenD at h
     split at h
     ·rename_i e e' tm
      injection h with h
      subst h
      obtain ⟨xs, h4, _⟩ := deep_den hd
      refine key xs.length (by simp only [den]; rw [den_f0.2 ⟨_, _, h4, rfl, rfl⟩]) fun w => ?_
      rcases row_shape (denT_ok hdat h4) with ⟨hV | ⟨a, cap, hV⟩, rfl⟩ | ⟨g, off, cap, hV, hle⟩
      rotate_left
      ·rw [hV, hrest]
       exact run_len_any hu rest (some a) 0 cap
      rotate_left
      ·rw [hV, hrest]
       obtain ⟨V, r1, r2⟩ := run_len (P := P) (w0 := w) (A := ⟨.e, ν, w⟩) (s := s) (x := .nslice) (X := .slice none 0 0) hu (v := i64 0) rfl (show den ν .nslice = _ from rfl) (.inl fun k e => by simp) rest (w := w) (ty := o.type)
       simp only [i64, den, Option.some.injEq] at r1
       subst r1
       exact r2
      ·rw [hV, hrest]
       obtain ⟨V, r1, r2⟩ := run_len (P := P) (w0 := w) (A := ⟨.e, ν, w⟩) (ν := ⟨fun _ => some g, ν.x, ν.u, ν.z⟩) (s := s) (x := .slice 0 off xs.length (.k cap)) (X := .slice (some ⟨g, off, none⟩) xs.length cap) hu (v := i64 xs.length) rfl (by simp only [den, capOf]; rw [if_pos hle]) (.inl fun k e => by simp) rest (w := w) (ty := o.type)
       simp only [i64, den, Option.some.injEq] at r1
       subst r1
       exact r2
     ·rename_i e i n c'
      injection h with h
      subst h
      simp only [den] at hd
      split at hd
      ·rename_i g n' cap h1 h2 h3
       split at hd
       ·rename_i hc
        injection hd with hd
        obtain ⟨m, rfl⟩ := Int.eq_ofNat_of_zero_le hc.1
        refine key m (by simp only [den, h2]) fun w => ?_
        rw [← hd, hrest]
        obtain ⟨V, r1, r2⟩ := run_len (P := P) (w0 := w) (A := ⟨.e, ν, w⟩) (ν := ν) (s := s) (x := .slice i 0 m c') (X := .slice (some ⟨g, 0, none⟩) m cap) hu (v := i64 m) rfl (by simp only [den, h1, h3]; rw [if_pos (by simpa using hc.2)]) (.inl fun k e => by simp) rest (w := w) (ty := o.type)
        simp only [i64, den, Option.some.injEq] at r1
        subst r1
        simpa using r2
       ·cases hd
      ·cases hd
     ·rename_i tm
      injection h with h
      subst h
      obtain ⟨l, h4, e4, h5⟩ := txt_cz (u := tm) rfl hd
      refine key l.length (by simp only [den, lenTm_den hpc h4]) fun w => ?_
      rw [h5, hrest]
      obtain ⟨V, r1, r2⟩ := run_len (P := P) (w0 := w) (A := ⟨.e, ν, w⟩) (ν := ν) (s := s) (x := .str l) hu (v := i64 l.length) rfl (show den ν (.str l) = _ from rfl) (.inl fun k e => by simp) rest (w := w) (ty := o.type)
      simp only [i64, den, Option.some.injEq] at r1
      subst r1
      exact r2
     ·cases h
    ·cases h
   ·cases h
  ·cases h
end
end Go.Proofs.YtcjbpaiomcfgnaaGreatDoor
