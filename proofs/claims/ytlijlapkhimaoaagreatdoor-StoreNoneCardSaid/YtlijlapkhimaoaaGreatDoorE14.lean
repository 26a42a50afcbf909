/- The evaluator, 14: one operation; what a run promises. No program in sight. -/
import Derived.Test.YtlijlapkhimaoaaGreatDoorE13
import Derived.RangeFuncLeaves
import Derived.RangeFuncNested
import Derived.LoopNIn
namespace Go.Proofs.YtlijlapkhimaoaaGreatDoor
open Go Go.RowKit

/-! ### terms: what is known of them -/
theorem intEq_eq {a b : Int} (h : intEq a b = true) : a = b := by
  cases a <;> cases b <;> simp only [intEq] at h
  · rw [Nat.eq_of_beq_eq_true h]
  · cases h
  · cases h
  · rw [Nat.eq_of_beq_eq_true h]
theorem kindEq_eq {a b : IntKind} (h : kindEq a b = true) : a = b := by
  cases a <;> cases b <;> first | rfl | cases h
theorem eqOp_eq {a b : BinOp} (h : eqOp a b = true) : a = b := by
  cases a <;> cases b <;> first | rfl | cases h
mutual
theorem eqTm_eq : ∀ {a b : Tm}, eqTm a b = true → a = b
  | .c a, b, h => by
    cases b <;> simp only [eqTm] at h <;> first | (cases h; done) | skip
    rw [intEq_eq h]
  | .x i, b, h => by
    cases b <;> simp only [eqTm] at h <;> first | (cases h; done) | skip
    rw [Nat.eq_of_beq_eq_true h]
  | .bin o k x y, b, h => by
    cases b <;> simp only [eqTm, Bool.and_eq_true] at h <;> first | (cases h; done) | skip
    obtain ⟨⟨⟨h1, h2⟩, h3⟩, h4⟩ := h
    rw [eqOp_eq h1, kindEq_eq h2, eqTm_eq h3, eqTm_eq h4]
  | .conv k x, b, h => by
    cases b <;> simp only [eqTm, Bool.and_eq_true] at h <;> first | (cases h; done) | skip
    rw [kindEq_eq h.1, eqTm_eq h.2]
  | .f o l, b, h => by
    cases b <;> simp only [eqTm, Bool.and_eq_true] at h <;> first | (cases h; done) | skip
    rw [Nat.eq_of_beq_eq_true h.1, eqTms_eq h.2]
theorem eqTms_eq : ∀ {a b : List Tm}, eqTms a b = true → a = b
  | [], b, h => by
    cases b <;> simp only [eqTms] at h <;> first | rfl | cases h
  | a :: l, b, h => by
    cases b <;> simp only [eqTms] at h
    · cases h
    · split at h
      · rename_i ha
        rw [eqTm_eq ha, eqTms_eq h]
      · cases h
end

def cmpZ (o : BinOp) (x y : Int) : Option Bool :=
  match o with
  | .eql => some (intEq x y)
  | .neq => some (!intEq x y)
  | .lss => some (decide (x < y))
  | .leq => some (decide (x ≤ y))
  | .gtr => some (decide (x > y))
  | .geq => some (decide (x ≥ y))
  | _ => none
theorem binZ_cmp {o : BinOp} {k : IntKind} {x y : Int} {q : Bool} (h : cmpZ o x y = some q) : binZ o k x y = some (.n (if q = true then 1 else 0)) := by
  cases o <;> simp only [cmpZ] at h <;> (try (cases h; done)) <;> injection h with h <;> subst h <;> rfl
theorem so_cmp {ν : Nm} {o : BinOp} {k : IntKind} {a c : Tm} {b q : Bool} {x y : Int} (h : IsSo ν (.bin o k a c) b) (ha : denT ν a = some (.n x)) (hc : denT ν c = some (.n y)) (hq : cmpZ o x y = some q) : q = b := by
  obtain ⟨n, h1, h2⟩ := h
  simp only [denT, ha, hc] at h1
  rw [binZ_cmp hq] at h1
  injection h1 with h1
  injection h1 with h1
  subst h1
  rw [dec01] at h2
  exact h2
/-- bounds of a number -/
def Bd (r : Option Int × Option Int) (z : Int) : Prop := (∀ m, r.1 = some m → m ≤ z) ∧ (∀ m, r.2 = some m → z ≤ m)
theorem loMax_le {a : Option Int} {n z : Int} (h : ∀ m, a = some m → m ≤ z) (hn : n ≤ z) : ∀ m, loMax a n = some m → m ≤ z := fun m hm => by
  cases a with
  | none => simp only [loMax, Option.some.injEq] at hm; omega
  | some k =>
    have := h k rfl
    simp only [loMax, Option.some.injEq] at hm
    split at hm <;> omega
theorem hiMin_le {a : Option Int} {n z : Int} (h : ∀ m, a = some m → z ≤ m) (hn : z ≤ n) : ∀ m, hiMin a n = some m → z ≤ m := fun m hm => by
  cases a with
  | none => simp only [hiMin, Option.some.injEq] at hm; omega
  | some k =>
    have := h k rfl
    simp only [hiMin, Option.some.injEq] at hm
    split at hm <;> omega
theorem intEq_iff {a b : Int} : intEq a b = decide (a = b) := by
  cases h : intEq a b with
  | true => rw [intEq_eq h]; simp
  | false =>
    have : a ≠ b := fun e => by
      subst e
      cases a <;> simp [intEq] at h
    simp [this]
theorem bndT_sound {ν : Nm} {t : Tm} {z : Int} (hz : denT ν t = some (.n z)) : ∀ {pc : List (Tm × Bool)}, (∀ t b, (t, b) ∈ pc → IsSo ν t b) → Bd (bndT t pc) z
  | [], _ => by
    unfold bndT
    split
    · simp only [denT, Option.some.injEq, Dat.n.injEq] at hz
      subst hz
      exact ⟨fun m hm => (by injection hm with hm; omega), fun m hm => (by injection hm with hm; omega)⟩
    · exact ⟨fun m hm => (by cases hm), fun m hm => (by cases hm)⟩
  | (u, c) :: pc, h => by
    have ih := bndT_sound hz (pc := pc) fun t b hm => h t b (List.mem_cons_of_mem _ hm)
    have hu := h u c (List.mem_cons_self ..)
    unfold bndT
    split
    · rename_i e; cases e
    · rename_i o k a n b pc' e
      simp only [List.cons.injEq, Prod.mk.injEq] at e
      obtain ⟨⟨rfl, rfl⟩, rfl⟩ := e
      split
      · exact ih
      · rename_i ha
        have ha := eqTm_eq ha
        subst ha
        have hq : ∀ q, cmpZ o z n = some q → q = c := fun q hq => so_cmp hu hz rfl hq
        simp only
        split <;> (try exact ih)
        all_goals
          have := hq _ rfl
          simp only [intEq_iff, Bool.not_eq_false', decide_eq_true_eq, decide_eq_false_iff_not] at this
          refine ⟨?_, ?_⟩ <;> first | exact ih.1 | exact ih.2 | exact loMax_le ih.1 (by omega) | exact hiMin_le ih.2 (by omega)
    · rename_i o k n a b pc' _ e
      simp only [List.cons.injEq, Prod.mk.injEq] at e
      obtain ⟨⟨rfl, rfl⟩, rfl⟩ := e
      split
      · exact ih
      · rename_i ha
        have ha := eqTm_eq ha
        subst ha
        have hq : ∀ q, cmpZ o n z = some q → q = c := fun q hq => so_cmp hu rfl hz hq
        simp only
        split <;> (try exact ih)
        all_goals
          have := hq _ rfl
          simp only [intEq_iff, Bool.not_eq_false', decide_eq_true_eq, decide_eq_false_iff_not] at this
          refine ⟨?_, ?_⟩ <;> first | exact ih.1 | exact ih.2 | exact loMax_le ih.1 (by omega) | exact hiMin_le ih.2 (by omega)
    · rename_i e
      simp only [List.cons.injEq] at e
      rw [← e.2]
      exact ih
theorem leO_le {a b : Option Int} {x y : Int} (h : leO a b = true) (ha : ∀ m, a = some m → x ≤ m) (hb : ∀ m, b = some m → m ≤ y) : x ≤ y := by
  cases a <;> cases b <;> simp only [leO] at h <;> (try (cases h; done))
  have := ha _ rfl
  have := hb _ rfl
  have := of_decide_eq_true h
  omega
theorem ltO_lt {a b : Option Int} {x y : Int} (h : ltO a b = true) (ha : ∀ m, a = some m → x ≤ m) (hb : ∀ m, b = some m → m ≤ y) : x < y := by
  cases a <;> cases b <;> simp only [ltO] at h <;> (try (cases h; done))
  have := ha _ rfl
  have := hb _ rfl
  have := of_decide_eq_true h
  omega
theorem cmpT_sound {o : BinOp} {p q : Option Int × Option Int} {x y : Int} {b : Bool} (h : cmpT o p q = some b) (hp : Bd p x) (hq : Bd q y) : cmpZ o x y = some b := by
  have l1 : ltO p.2 q.1 = true → x < y := fun h => ltO_lt h hp.2 hq.1
  have l2 : leO q.2 p.1 = true → y ≤ x := fun h => leO_le h hq.2 hp.1
  have l3 : leO p.2 q.1 = true → x ≤ y := fun h => leO_le h hp.2 hq.1
  have l4 : ltO q.2 p.1 = true → y < x := fun h => ltO_lt h hq.2 hp.1
  have l5 : (ltO p.2 q.1 || ltO q.2 p.1) = true → x ≠ y := fun h => by
    rcases Bool.or_eq_true_iff.1 h with h | h
    · have := l1 h; omega
    · have := l4 h; omega
  have l6 : (leO p.2 q.1 && leO q.2 p.1) = true → x = y := fun h => by
    obtain ⟨h1, h2⟩ := Bool.and_eq_true_iff.1 h
    have := l3 h1
    have := l2 h2
    omega
  unfold cmpT at h
  split at h <;> (try (cases h; done)) <;> split at h <;> (try (cases h; done)) <;> injection h with h <;> subst h <;> simp only [cmpZ, Option.some.injEq, intEq_iff, Bool.not_eq_true', Bool.not_eq_false', decide_eq_true_eq, decide_eq_false_iff_not]
  all_goals
    first
      | (have := l1 (by assumption); omega)
      | (have := l2 (by assumption); omega)
      | (have := l3 (by assumption); omega)
      | (have := l4 (by assumption); omega)
      | (have := l5 (by assumption); omega)
      | (have := l6 (by assumption); omega)
theorem knownT_sound {ν : Nm} {t : Tm} {b : Bool} : ∀ {pc : List (Tm × Bool)}, knownT t pc = some b → (∀ t b, (t, b) ∈ pc → IsSo ν t b) → IsSo ν t b
  | [], h, _ => by cases h
  | (u, c) :: pc, h, hc => by
    unfold knownT at h
    split at h
    · rename_i hu
      injection h with h
      subst h
      rw [← eqTm_eq hu]
      exact hc _ _ (List.mem_cons_self ..)
    · exact knownT_sound h fun t b hm => hc t b (List.mem_cons_of_mem _ hm)
theorem decT_sound {ν : Nm} {pc : List (Tm × Bool)} {t : Tm} {b : Bool} {n : Int} (h : decT pc t = some b) (hc : ∀ t b, (t, b) ∈ pc → IsSo ν t b) (hn : denT ν t = some (.n n)) : decide (n ≠ 0) = b := by
  unfold decT at h
  split at h
  · rename_i c hk
    injection h with h
    subst h
    obtain ⟨m, h1, h2⟩ := knownT_sound hk hc
    rw [hn] at h1
    injection h1 with h1
    injection h1 with h1
    subst h1
    exact h2
  · split at h
    · rename_i o k a c
      simp only [denT] at hn
      split at hn
      · rename_i x y ha hb
        have := cmpT_sound h (bndT_sound ha hc) (bndT_sound hb hc)
        rw [binZ_cmp this] at hn
        injection hn with hn
        injection hn with hn
        subst hn
        exact dec01 b
      · cases hn
    · cases h
/-- a term's truth is known, or both are looked at -/
theorem fork_spec {P : Program} {w0 w : World} {A : Anch} {ν : Nm} {s : St} (h : WRel P w0 A ν s w) {v : AV} {V : Value} (hv : den ν v = some V) :
    ∃ p ∈ forkV v s, den ν p.1 = some V ∧ WRel P w0 A ν p.2 w ∧ p.2.h = s.h ∧ p.2.n = s.n ∧ p.2.log = s.log ∧ p.2.x.gl = s.x.gl := by
  unfold forkV
  split
  · rename_i t
    obtain ⟨n, h1, rfl⟩ := symB_den hv
    split
    · rename_i b hb
      refine ⟨_, List.mem_singleton.2 rfl, ?_, h, rfl, rfl, rfl, rfl⟩
      rw [decT_sound hb h.ctx.pc h1]
      rfl
    · have hl : WRel P w0 A ν (learn s t (decide (n ≠ 0))) w := by
        refine ⟨h.keep, h.top, h.objs, h.inj, h.ext, h.anc, h.same, h.far, h.big, h.own, h.ctx.gl, fun u b hu => ?_⟩
        rcases List.mem_cons.1 hu with e | hu
        · simp only [Prod.mk.injEq] at e
          obtain ⟨rfl, rfl⟩ := e
          exact ⟨n, h1, rfl⟩
        · exact h.ctx.pc u b hu
      cases hb : decide (n ≠ 0) with
      | true => rw [hb] at hl; exact ⟨_, List.mem_cons_self .., rfl, hl, rfl, rfl, rfl, rfl⟩
      | false => rw [hb] at hl; exact ⟨_, List.mem_cons_of_mem _ (List.mem_singleton.2 rfl), rfl, hl, rfl, rfl, rfl, rfl⟩
  · exact ⟨_, List.mem_singleton.2 rfl, hv, h, rfl, rfl, rfl, rfl⟩
theorem forkR_spec {f : AV → St → Res} : ∀ {l : List (AV × St)} {outs : List Out}, forkR f l = some outs → ∀ p ∈ l, ∃ os, f p.1 p.2 = some os ∧ ∀ o ∈ os, o ∈ outs
  | [], _, _, p, hp => by simp at hp
  | [(v, s)], outs, h, p, hp => by
    rw [List.mem_singleton] at hp
    subst hp
    exact ⟨outs, h, fun _ h => h⟩
  | (v, s) :: q :: l, outs, h, p, hp => by
    unfold forkR at h
    split at h
    · cases h
    · rename_i x hx
      split at h
      · cases h
      · rename_i y hy
        injection h with h
        subst h
        rcases List.mem_cons.1 hp with rfl | hp
        · exact ⟨x, hx, fun o ho => List.mem_append_left _ ho⟩
        · obtain ⟨os, h1, h2⟩ := forkR_spec hy p hp
          exact ⟨os, h1, fun o ho => List.mem_append_right _ (h2 o ho)⟩


/-- how code is left -/
def SameEx : Ex → Exit → Prop
  | .norm, .normal => True
  | .ret, .ret => True
  | .exit i, .exit j => i = j
  | .goto i, .goto j => i = j
  | _, _ => False
def MRel (ν : Nm) : List Nat → List Deferred → Prop := All2 fun i d => ∃ g, ν i = some g ∧ d = { target := .collected g, args := #[] }
theorem MRel.mono {ν ν' : Nm} (h : Nm.le ν ν') {M : List Nat} {ds : List Deferred} (hm : MRel ν M ds) : MRel ν' M ds := All2.imp (fun i d ⟨g, h1, h2⟩ => ⟨g, h _ _ h1, h2⟩) hm
def RR (ν : Nm) (r ro : Option Nat) : Prop :=
  match r with
  | none => ro = none
  | some l => ∃ g, ν l = some g ∧ ro = some g
theorem RR.mono {ν ν' : Nm} (h : Nm.le ν ν') {r ro : Option Nat} (hr : RR ν r ro) : RR ν' r ro := by
  cases r with
  | none => exact hr
  | some l =>
    obtain ⟨g, h1, h2⟩ := hr
    exact ⟨g, h _ _ h1, h2⟩

/-- what is asked behind code -/
def Post (P : Program) (w0 : World) (A : Anch) (ν : Nm) (N : Nat) (outs : List Out) : Exit → Act → World → Prop := fun e a w =>
  ∃ o ∈ outs, ∃ ν', Nm.le ν ν' ∧ SameEx o.e e ∧ WRel P w0 A ν' o.s w ∧ FRel ν' o.T N a.tmps ∧ MRel ν' o.M a.defers
/-- what is asked behind a call -/
def CPost (P : Program) (w0 : World) (A : Anch) (ν : Nm) (outs : List Out) : Ending → World → Prop := fun e w' =>
  ∃ o ∈ outs, ∃ ν' V, Nm.le ν ν' ∧ WRel P w0 A ν' o.s w' ∧ den ν' o.v = some V ∧ e = .returned V
def OneOk (P : Program) (ro : Option Nat) (o : Oper) (a : Act) (w w0 : World) (A : Anch) (ν : Nm) (outs : List Out) : Prop :=
  ∀ (K : Act → World → Prop) (Q : Exit → Act → World → Prop), (∀ out ∈ outs, ∀ ν' V w', Nm.le ν ν' → WRel P w0 A ν' out.s w' → den ν' out.v = some V → K (a.put o.dst V) w') → o.wpIn (fz ro) 0 P a w K Q

theorem Post.mono {P : Program} {w0 : World} {A : Anch} {ν ν' : Nm} {N : Nat} {outs outs' : List Out} (hν : Nm.le ν ν') (ho : ∀ o ∈ outs, o ∈ outs') {e : Exit} {a : Act} {w : World} (h : Post P w0 A ν' N outs e a w) : Post P w0 A ν N outs' e a w := by
  obtain ⟨o, h1, ν2, h2, h3⟩ := h
  exact ⟨o, ho o h1, ν2, hν.trans h2, h3⟩
theorem CPost.mono {P : Program} {w0 : World} {A : Anch} {ν ν' : Nm} {outs outs' : List Out} (hν : Nm.le ν ν') (ho : ∀ o ∈ outs, o ∈ outs') {e : Ending} {w : World} (h : CPost P w0 A ν' outs e w) : CPost P w0 A ν outs' e w := by
  obtain ⟨o, h1, ν2, V, h2, h3⟩ := h
  exact ⟨o, ho o h1, ν2, V, hν.trans h2, h3⟩

def okNames (P : Program) : Bool := P.funcs.toList.all fun fn => fn.body.isNone || !(fn.name == "runtime.NumGoroutine")
theorem okNames_spec {P : Program} (h : okNames P = true) {g : Nat} {fn : Func} (hg : P.funcs[g]? = some fn) {c : Code} (hb : fn.body = some c) (args : Array Value) (w : World) : (callFunc g args).run P w = .ok (.enter g args) w := by
  have hm : fn ∈ P.funcs.toList := by
    have := Array.mem_of_getElem? hg
    simpa using this
  have := List.all_eq_true.1 h fn hm
  rw [hb] at this
  have hn : (fn.name == "runtime.NumGoroutine") = false := by simpa using this
  unfold callFunc
  simp only [program, bind, Sem.bind, Sem.run, hg, hn, hb]
  rfl

/-- a function that is taken whole -/
def Does (P : Program) (g : Nat) (VS : Array Value) (w : World) (R : Value → World → Prop) : Prop :=
  (∃ V w', (callFunc g VS).run P w = .ok (.value V) w' ∧ R V w') ∨ ((callFunc g VS).run P w = .ok (.enter g VS) w ∧ Calls P g VS w fun e w' => ∃ V, e = .returned V ∧ R V w')
def PrimOk (P : Program) (prims : Pr) : Prop :=
  ∀ g k t, primOf prims g = some (k, t) → ∀ (w0 : World) (A : Anch) (ν : Nm) (s : St) (w : World) (args : List AV) (v : AV) (s' : St) (VS : List Value), primA P k t args s = some (v, s') → WRel P w0 A ν s w → denL ν args = some VS →
    Does P g VS.toArray w fun V w' => ∃ ν', Nm.le ν ν' ∧ WRel P w0 A ν' s' w' ∧ den ν' v = some V

section
variable {P : Program} {w0 w : World} {A : Anch} {ν : Nm} {s : St} {T : Tr AV} {N : Nat} {a : Act}

theorem callee_rel {o : Oper} (hF : FRel ν T N a.tmps) {g : Goes} (h : calleeA T o.op = some g) :
    (∀ c, o.op ≠ .defer c) ∧ match g with
    | .enter f args => ∃ VS, denL ν args = some VS ∧ ∀ w, (execOp a.eval o).run P w = (callFunc f VS.toArray).run P w
    | .round l args => ∃ lg VS, ν l = some lg ∧ denL ν args = some VS ∧ ∀ w, (execOp a.eval o).run P w = (Instr.yield lg VS.toArray).run P w := by
  unfold calleeA at h
  split at h
  · rename_i c hop
    refine ⟨fun c' e => (by rw [hop] at e; cases e), ?_⟩
    split at h
    · rename_i f hc
      split at h
      · rename_i gf first cap args hf hargs
        injection h with h
        subst h
        obtain ⟨fn, A1, B1, h1, h2, h3, e⟩ := func_den (hF.evA hf)
        simp only [fnOf, Option.some.injEq] at h1
        subst h1
        refine ⟨_, denL_append (denL_append h2 (list_den hF hargs)) h3, fun w => ?_⟩
        unfold execOp
        rw [hop]
        simp only [resolve, hc, bind, e, Deferred.ofValue, pure, Sem.bind, invoke]
        have : (A1 ++ c.args.toList.map a.eval ++ B1).toArray = A1.toArray ++ c.args.map a.eval ++ B1.toArray := Array.ext' (by simp)
        rw [this]
      · rename_i l first cap args hf hargs
        injection h with h
        subst h
        obtain ⟨fn, A1, B1, h1, h2, h3, e⟩ := func_den (hF.evA hf)
        simp only [fnOf] at h1
        split at h1
        · rename_i lg hlg
          injection h1 with h1
          subst h1
          refine ⟨lg, _, hlg, denL_append h2 (list_den hF hargs), fun w => ?_⟩
          unfold execOp
          rw [hop]
          simp only [resolve, hc, bind, e, Deferred.ofValue, pure, Sem.bind, invoke]
          have : (A1 ++ c.args.toList.map a.eval).toArray = A1.toArray ++ c.args.map a.eval := Array.ext' (by simp)
          rw [this]
        · cases h1
      · cases h
    · cases h
  · cases h

theorem one_value {ro : Option Nat} {o : Oper} (hd : ∀ c, o.op ≠ .defer c) {V : Value} {w' : World} {K : Act → World → Prop} {Q : Exit → Act → World → Prop} (hr : (execOp a.eval o).run P w = .ok (.value V) w' ∨ ((execOp a.eval o).run P w = .ok .skip w' ∧ V = undef)) (hK : K (a.put o.dst V) w') : o.wpIn (fz ro) 0 P a w K Q := by
  refine ⟨fun _ _ => trivial, ?_⟩
  rw [show (fz ro).round = ro from rfl, semR hd]
  rcases hr with hr | ⟨hr, rfl⟩
  · rw [hr]; exact hK
  · rw [hr]; exact hK
theorem one_enter {ro : Option Nat} {o : Oper} (hd : ∀ c, o.op ≠ .defer c) {g : Nat} {VS : Array Value} {K : Act → World → Prop} {Q : Exit → Act → World → Prop} (hr : (execOp a.eval o).run P w = .ok (.enter g VS) w) (hC : Calls P g VS w fun e w' => ∃ V, e = .returned V ∧ K (a.put o.dst V) w') : o.wpIn (fz ro) 0 P a w K Q := by
  refine ⟨fun _ _ => trivial, ?_⟩
  rw [show (fz ro).round = ro from rfl, semR hd, hr]
  refine ⟨fun h => (by cases h), callsR (hC.mono fun e w' he => ?_)⟩
  obtain ⟨V, rfl, hk⟩ := he
  exact hk
theorem one_does {ro : Option Nat} {o : Oper} (hd : ∀ c, o.op ≠ .defer c) {g : Nat} {VS : Array Value} {K : Act → World → Prop} {Q : Exit → Act → World → Prop} {R : Value → World → Prop} (hr : ∀ w, (execOp a.eval o).run P w = (callFunc g VS).run P w) (hD : Does P g VS w R) (hK : ∀ V w', R V w' → K (a.put o.dst V) w') : o.wpIn (fz ro) 0 P a w K Q := by
  rcases hD with ⟨V, w', h1, h2⟩ | ⟨h1, h2⟩
  · exact one_value hd (.inl ((hr w).trans h1)) (hK V w' h2)
  · exact one_enter hd ((hr w).trans h1) (h2.mono fun e w' ⟨V, he, hR⟩ => ⟨V, he, hK V w' hR⟩)
theorem one_round {ro : Option Nat} {o : Oper} (hd : ∀ c, o.op ≠ .defer c) {lg : Nat} {VS : Array Value} {K : Act → World → Prop} {Q : Exit → Act → World → Prop} (hr : (execOp a.eval o).run P w = (Instr.yield lg VS).run P w)
    (hY : ∃ fn tmps assign body, (Instr.yield lg VS).run P w = .ok (.round lg fn tmps assign body) w ∧ RoundIn (fz ro) 0 P lg fn tmps assign body w fun e w' => ∃ V, e = .returned V ∧ K (a.put o.dst V) w') : o.wpIn (fz ro) 0 P a w K Q := by
  obtain ⟨fn, tmps, assign, body, h1, h2⟩ := hY
  refine ⟨fun _ _ => trivial, ?_⟩
  rw [show (fz ro).round = ro from rfl, semR hd, hr, h1]
  refine ⟨fun h => (by cases h), h2.mono fun e w' he => ?_⟩
  obtain ⟨V, rfl, hk⟩ := he
  exact hk

/-- a thing that is made -/
theorem makes_rel (h : WRel P w0 A ν s w) {obj : AObj} {f : Nat → AV} {x : World → Result Next} (hm : Makes P ν obj f x) : ∃ ν' V w', Nm.le ν ν' ∧ WRel P w0 A ν' (newO s obj) w' ∧ den ν' (f s.n) = some V ∧ x w = .ok (.value V) w' := by
  obtain ⟨OBJ, Vf, h1, h2, h3⟩ := hm
  have hk := h.top s.n (Nat.le_refl _)
  exact ⟨_, _, _, Nm.le_set hk _, h.alloc (n' := s.n + 1) hk (by omega) (by omega) (h1 _ (Nm.le_set hk _)), h2 _ _ _ (Nm.set_same _ _ _), h3 w⟩

theorem noDefer_of {o : Oper} (h : kindA P o.op ≠ 4 ∨ isNext o.op ≠ none ∨ memA P s T o.op ≠ none) (c : Call) : o.op ≠ .defer c := fun e => by
  rw [e] at h
  simp [kindA, isNext, memA] at h
theorem kind2_worldless {o : Oper} (h : kindA P o.op = 2) {v : AV} (hp : pureA P s T o.op = some v) : worldless P o.op = true := by
  cases hop : o.op <;> rw [hop] at h hp <;> simp only [kindA] at h <;> (try (cases h; done)) <;> (try rfl)
  · simp only [worldless]
    simp only [pureA] at hp
    split at h
    · cases h
    · rename_i hs
      rw [hs]
    · cases h
    · cases h
    · rename_i hns _ _ _
      cases hsrc : P.underlying _ with
      | none => rw [hsrc] at hp; simp at hp; split at hp <;> simp_all
      | some d => cases d <;> first | rfl | exact absurd hsrc (hns _)
  · rename_i c
    split at h
    · rename_i hc
      split at h
      · rename_i hw; exact hw
      · cases h
    · rename_i hc; simp only [worldless, hc]
    · rename_i hc; simp only [worldless, hc]
    · cases h
    · cases h
end

end Go.Proofs.YtlijlapkhimaoaaGreatDoor
