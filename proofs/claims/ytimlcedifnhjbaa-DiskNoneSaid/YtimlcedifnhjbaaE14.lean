/- The evaluator, 14: one operation; what a run promises. No program in sight. -/
import Derived.Test.YtimlcedifnhjbaaE13
import Derived.RangeFuncLeaves
import Derived.RangeFuncNested
import Derived.LoopNIn
namespace Go.Proofs.Ytimlcedifnhjbaa
open Go Go.RowKit

/-- how code is left -/
def SameEx : Ex → Exit → Prop
  | .norm, .normal => True
  | .ret, .ret => True
  | .exit i, .exit j => i = j
  | _, _ => False
def MRel (ν : Nm) : List Nat → List Deferred → Prop := All2 fun i d => ∃ g, ν i = some g ∧ d = { target := .collected g, args := #[] }
theorem MRel.mono {ν ν' : Nm} (h : Nm.le ν ν') {M : List Nat} {ds : List Deferred} (hm : MRel ν M ds) : MRel ν' M ds := All2.imp (fun i d ⟨g, h1, h2⟩ => ⟨g, h _ _ h1, h2⟩) hm
def RR (ν : Nm) (r ro : Option Nat) : Prop :=
  match r with
  | none => ro = none
  | some l => ∃ g, ν l = some g ∧ ro = some g
theorem RR.mono {ν ν' : Nm} (h : Nm.le ν ν') {r ro : Option Nat} (hr : RR ν r ro) : RR ν' r ro := by
  cases r with
  | none => exact hr
  | some l =>
    obtain ⟨g, h1, h2⟩ := hr
    exact ⟨g, h _ _ h1, h2⟩

/-- what is asked behind code -/
def Post (P : Program) (w0 : World) (A : Anch) (ν : Nm) (N : Nat) (outs : List Out) : Exit → Act → World → Prop := fun e a w =>
  ∃ o ∈ outs, ∃ ν', Nm.le ν ν' ∧ SameEx o.e e ∧ WRel P w0 A ν' o.s w ∧ FRel ν' o.T N a.tmps ∧ MRel ν' o.M a.defers
/-- what is asked behind a call -/
def CPost (P : Program) (w0 : World) (A : Anch) (ν : Nm) (outs : List Out) : Ending → World → Prop := fun e w' =>
  ∃ o ∈ outs, ∃ ν' V, Nm.le ν ν' ∧ WRel P w0 A ν' o.s w' ∧ den ν' o.v = some V ∧ e = .returned V
def OneOk (P : Program) (ro : Option Nat) (o : Oper) (a : Act) (w w0 : World) (A : Anch) (ν : Nm) (outs : List Out) : Prop :=
  ∀ (K : Act → World → Prop) (Q : Exit → Act → World → Prop), (∀ out ∈ outs, ∀ ν' V w', Nm.le ν ν' → WRel P w0 A ν' out.s w' → den ν' out.v = some V → K (a.put o.dst V) w') → o.wpIn (fz ro) 0 P a w K Q

theorem Post.mono {P : Program} {w0 : World} {A : Anch} {ν ν' : Nm} {N : Nat} {outs outs' : List Out} (hν : Nm.le ν ν') (ho : ∀ o ∈ outs, o ∈ outs') {e : Exit} {a : Act} {w : World} (h : Post P w0 A ν' N outs e a w) : Post P w0 A ν N outs' e a w := by
  obtain ⟨o, h1, ν2, h2, h3⟩ := h
  exact ⟨o, ho o h1, ν2, hν.trans h2, h3⟩
theorem CPost.mono {P : Program} {w0 : World} {A : Anch} {ν ν' : Nm} {outs outs' : List Out} (hν : Nm.le ν ν') (ho : ∀ o ∈ outs, o ∈ outs') {e : Ending} {w : World} (h : CPost P w0 A ν' outs e w) : CPost P w0 A ν outs' e w := by
  obtain ⟨o, h1, ν2, V, h2, h3⟩ := h
  exact ⟨o, ho o h1, ν2, V, hν.trans h2, h3⟩

def okNames (P : Program) : Bool := P.funcs.toList.all fun fn => fn.body.isNone || !(fn.name == "runtime.NumGoroutine")
theorem okNames_spec {P : Program} (h : okNames P = true) {g : Nat} {fn : Func} (hg : P.funcs[g]? = some fn) {c : Code} (hb : fn.body = some c) (args : Array Value) (w : World) : (callFunc g args).run P w = .ok (.enter g args) w := by
  have hm : fn ∈ P.funcs.toList := by
    have := Array.mem_of_getElem? hg
    simpa using this
  have := List.all_eq_true.1 h fn hm
  rw [hb] at this
  have hn : (fn.name == "runtime.NumGoroutine") = false := by simpa using this
  unfold callFunc
  simp only [program, bind, Sem.bind, Sem.run, hg, hn, hb]
  rfl

/-- a function that is taken whole -/
def Does (P : Program) (g : Nat) (VS : Array Value) (w : World) (R : Value → World → Prop) : Prop :=
  (∃ V w', (callFunc g VS).run P w = .ok (.value V) w' ∧ R V w') ∨ ((callFunc g VS).run P w = .ok (.enter g VS) w ∧ Calls P g VS w fun e w' => ∃ V, e = .returned V ∧ R V w')
def PrimOk (P : Program) (prims : List (Nat × Nat × Nat)) : Prop :=
  ∀ g k t, primOf prims g = some (k, t) → ∀ (w0 : World) (A : Anch) (ν : Nm) (s : St) (w : World) (args : List AV) (v : AV) (s' : St) (VS : List Value), primA P k t args s = some (v, s') → WRel P w0 A ν s w → denL ν args = some VS →
    Does P g VS.toArray w fun V w' => ∃ ν', Nm.le ν ν' ∧ WRel P w0 A ν' s' w' ∧ den ν' v = some V

section
variable {P : Program} {w0 w : World} {A : Anch} {ν : Nm} {s : St} {T : Tr AV} {N : Nat} {a : Act}

theorem callee_rel {o : Oper} (hF : FRel ν T N a.tmps) {g : Goes} (h : calleeA T o.op = some g) :
    (∀ c, o.op ≠ .defer c) ∧ match g with
    | .enter f args => ∃ VS, denL ν args = some VS ∧ ∀ w, (execOp a.eval o).run P w = (callFunc f VS.toArray).run P w
    | .round l args => ∃ lg VS, ν l = some lg ∧ denL ν args = some VS ∧ ∀ w, (execOp a.eval o).run P w = (Instr.yield lg VS.toArray).run P w := by
  unfold calleeA at h
  split at h
  · rename_i c hop
    refine ⟨fun c' e => (by rw [hop] at e; cases e), ?_⟩
    split at h
    · rename_i f hc
      split at h
      · rename_i gf first cap args hf hargs
        injection h with h
        subst h
        obtain ⟨fn, A1, B1, h1, h2, h3, e⟩ := func_den (hF.evA hf)
        simp only [fnOf, Option.some.injEq] at h1
        subst h1
        refine ⟨_, denL_append (denL_append h2 (list_den hF hargs)) h3, fun w => ?_⟩
        unfold execOp
        rw [hop]
        simp only [resolve, hc, bind, e, Deferred.ofValue, pure, Sem.bind, invoke]
        have : (A1 ++ c.args.toList.map a.eval ++ B1).toArray = A1.toArray ++ c.args.map a.eval ++ B1.toArray := Array.ext' (by simp)
        rw [this]
      · rename_i l first cap args hf hargs
        injection h with h
        subst h
        obtain ⟨fn, A1, B1, h1, h2, h3, e⟩ := func_den (hF.evA hf)
        simp only [fnOf] at h1
        split at h1
        · rename_i lg hlg
          injection h1 with h1
          subst h1
          refine ⟨lg, _, hlg, denL_append h2 (list_den hF hargs), fun w => ?_⟩
          unfold execOp
          rw [hop]
          simp only [resolve, hc, bind, e, Deferred.ofValue, pure, Sem.bind, invoke]
          have : (A1 ++ c.args.toList.map a.eval).toArray = A1.toArray ++ c.args.map a.eval := Array.ext' (by simp)
          rw [this]
        · cases h1
      · cases h
    · cases h
  · cases h

theorem one_value {ro : Option Nat} {o : Oper} (hd : ∀ c, o.op ≠ .defer c) {V : Value} {w' : World} {K : Act → World → Prop} {Q : Exit → Act → World → Prop} (hr : (execOp a.eval o).run P w = .ok (.value V) w' ∨ ((execOp a.eval o).run P w = .ok .skip w' ∧ V = undef)) (hK : K (a.put o.dst V) w') : o.wpIn (fz ro) 0 P a w K Q := by
  refine ⟨fun _ _ => trivial, ?_⟩
  rw [show (fz ro).round = ro from rfl, semR hd]
  rcases hr with hr | ⟨hr, rfl⟩
  · rw [hr]; exact hK
  · rw [hr]; exact hK
theorem one_enter {ro : Option Nat} {o : Oper} (hd : ∀ c, o.op ≠ .defer c) {g : Nat} {VS : Array Value} {K : Act → World → Prop} {Q : Exit → Act → World → Prop} (hr : (execOp a.eval o).run P w = .ok (.enter g VS) w) (hC : Calls P g VS w fun e w' => ∃ V, e = .returned V ∧ K (a.put o.dst V) w') : o.wpIn (fz ro) 0 P a w K Q := by
  refine ⟨fun _ _ => trivial, ?_⟩
  rw [show (fz ro).round = ro from rfl, semR hd, hr]
  refine ⟨fun h => (by cases h), callsR (hC.mono fun e w' he => ?_)⟩
  obtain ⟨V, rfl, hk⟩ := he
  exact hk
theorem one_does {ro : Option Nat} {o : Oper} (hd : ∀ c, o.op ≠ .defer c) {g : Nat} {VS : Array Value} {K : Act → World → Prop} {Q : Exit → Act → World → Prop} {R : Value → World → Prop} (hr : ∀ w, (execOp a.eval o).run P w = (callFunc g VS).run P w) (hD : Does P g VS w R) (hK : ∀ V w', R V w' → K (a.put o.dst V) w') : o.wpIn (fz ro) 0 P a w K Q := by
  rcases hD with ⟨V, w', h1, h2⟩ | ⟨h1, h2⟩
  · exact one_value hd (.inl ((hr w).trans h1)) (hK V w' h2)
  · exact one_enter hd ((hr w).trans h1) (h2.mono fun e w' ⟨V, he, hR⟩ => ⟨V, he, hK V w' hR⟩)
theorem one_round {ro : Option Nat} {o : Oper} (hd : ∀ c, o.op ≠ .defer c) {lg : Nat} {VS : Array Value} {K : Act → World → Prop} {Q : Exit → Act → World → Prop} (hr : (execOp a.eval o).run P w = (Instr.yield lg VS).run P w)
    (hY : ∃ fn tmps assign body, (Instr.yield lg VS).run P w = .ok (.round lg fn tmps assign body) w ∧ RoundIn (fz ro) 0 P lg fn tmps assign body w fun e w' => ∃ V, e = .returned V ∧ K (a.put o.dst V) w') : o.wpIn (fz ro) 0 P a w K Q := by
  obtain ⟨fn, tmps, assign, body, h1, h2⟩ := hY
  refine ⟨fun _ _ => trivial, ?_⟩
  rw [show (fz ro).round = ro from rfl, semR hd, hr, h1]
  refine ⟨fun h => (by cases h), h2.mono fun e w' he => ?_⟩
  obtain ⟨V, rfl, hk⟩ := he
  exact hk

/-- a thing that is made -/
theorem makes_rel (h : WRel P w0 A ν s w) {obj : AObj} {f : Nat → AV} {x : World → Result Next} (hm : Makes P ν obj f x) : ∃ ν' V w', Nm.le ν ν' ∧ WRel P w0 A ν' (newO s obj) w' ∧ den ν' (f s.n) = some V ∧ x w = .ok (.value V) w' := by
  obtain ⟨OBJ, Vf, h1, h2, h3⟩ := hm
  have hk := h.top s.n (Nat.le_refl _)
  exact ⟨_, _, _, Nm.le_set hk _, h.alloc (n' := s.n + 1) hk (by omega) (by omega) (h1 _ (Nm.le_set hk _)), h2 _ _ _ (Nm.set_same _ _ _), h3 w⟩

theorem noDefer_of {o : Oper} (h : kindA P o.op ≠ 4 ∨ isNext o.op ≠ none ∨ memA P s T o.op ≠ none) (c : Call) : o.op ≠ .defer c := fun e => by
  rw [e] at h
  simp [kindA, isNext, memA] at h
theorem kind2_worldless {o : Oper} (h : kindA P o.op = 2) {v : AV} (hp : pureA P s T o.op = some v) : worldless P o.op = true := by
  cases hop : o.op <;> rw [hop] at h hp <;> simp only [kindA] at h <;> (try (cases h; done)) <;> (try rfl)
  · simp only [worldless]
    simp only [pureA] at hp
    split at h
    · cases h
    · rename_i hns
      cases hsrc : P.underlying _ with
      | none => rw [hsrc] at hp; simp at hp; split at hp <;> simp_all
      | some d => cases d <;> first | rfl | exact absurd hsrc (hns _)
  · rename_i c
    split at h
    · rename_i hc
      split at h
      · rename_i hw; exact hw
      · cases h
    · rename_i hc; simp only [worldless, hc]
    · rename_i hc; simp only [worldless, hc]
    · cases h
    · cases h
end

end Go.Proofs.Ytimlcedifnhjbaa
