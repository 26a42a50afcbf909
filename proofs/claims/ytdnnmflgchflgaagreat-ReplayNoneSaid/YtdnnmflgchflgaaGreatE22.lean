/- The evaluator, 22: maps.clone; a law that answers true. No program in sight. -/
import Derived.Test.YtdnnmflgchflgaaGreatE21
import Derived.Laws.Externs
import GoSem.Extern.Table
namespace Go.Proofs.YtdnnmflgchflgaaGreat
open Go Go.RowKit

/-- maps.clone alone is taken whole -/
theorem primOk_clone {P : Program} {f : Nat} {fn : Func} (hf : P.funcs[f]? = some fn) (hname : (fn.name == "runtime.NumGoroutine") = false) (hb : fn.body.isNone = true) (hn : Extern.findNext fn = none) (he : Extern.find fn = some Extern.MapsClone.clone) {tab : List Ent} : PrimOk P ⟨[(f, 1, 0)], tab⟩ := by
  intro g k t hp w0 A ν s w args v s' VS hpr hW hVS
  simp only [primOf, primIn] at hp
  split at hp
  · rename_i hb'
    have := Nat.eq_of_beq_eq_true hb'
    subst this
    simp only [Option.some.injEq, Prod.mk.injEq] at hp
    obtain ⟨rfl, rfl⟩ := hp
    simp only [primA] at hpr
    split at hpr
    · rename_i u i
      split at hpr
      · rename_i es c hi
        simp only [Option.some.injEq, Prod.mk.injEq] at hpr
        obtain ⟨rfl, rfl⟩ := hpr
        obtain ⟨V, R, h1, h2, rfl⟩ := denL_cons hVS
        rw [denL_nil h2]
        simp only [den] at h1
        split at h1
        · rename_i U hU
          injection h1 with h1
          subst h1
          obtain ⟨gm, hgm, hUm⟩ := map_den (ν := ν) (i := i) (V := U) (by simpa [den] using hU)
          subst hUm
          obtain ⟨arr, h3, h4⟩ := hW.rrel.map_ trivial hi hgm
          have hk := hW.top s.n (Nat.le_refl _)
          have hle := Nm.le_set hk w.heap.size
          refine .inl ⟨.iface u (.map (some w.heap.size)), w.alloc (.map arr c), ?_, ν.set s.n w.heap.size, hle, hW.alloc (n' := s.n + 1) hk (by omega) (by omega) ?_, ?_⟩
          · rw [run_callFunc_extern hf hname hb hn he]
            have hg : (getObj gm).run P w = .ok (.map arr c) w := by simp [getObj, Sem.run, h3]
            have hc : (Extern.MapsClone.clone #[.iface u (.map (some gm))]).run P w = .ok (.iface u (.map (some w.heap.size))) (w.alloc (.map arr c)) := by
              show (Sem.bind (getObj gm) _).run P w = _
              rw [run_bind, hg]
              rfl
            show ((Extern.MapsClone.clone #[.iface u (.map (some gm))]).run P w).andThen _ = _
            rw [hc]
            rfl
          · exact ⟨rfl, All2.imp (fun e m hm => ⟨den_mono hle _ _ hm.1, den_mono hle _ _ hm.2.1, hm.2.2⟩) h4⟩
          · simp [den, Nm.set_same]
        · cases h1
      · cases hpr
    · cases hpr
  · cases hp

/-! ### calls that are run once, and known from then on -/
def eqO (o p : Out) : Bool := (match o.e, p.e with | .norm, .norm => true | .ret, .ret => true | _, _ => false) && eqV o.v p.v && eqTr eqV o.T p.T && eqNs o.M p.M && eqSt o.s p.s
def eqOs : List Out → List Out → Bool
  | [], [] => true
  | o :: l, p :: m => match eqO o p with
    | true => eqOs l m
    | false => false
  | _, _ => false
theorem eqOs_eq : ∀ {a b : List Out}, eqOs a b = true → a = b
  | [], [], _ => rfl
  | [], _ :: _, h => by cases h
  | _ :: _, [], h => by cases h
  | o :: l, p :: m, h => by
    unfold eqOs at h
    split at h
    · rename_i ho
      rw [eqOs_eq h]
      congr 1
      obtain ⟨oe, ov, oT, oM, os⟩ := o
      obtain ⟨pe, pv, pT, pM, ps⟩ := p
      unfold eqO at ho
      simp only [Bool.and_eq_true] at ho
      obtain ⟨⟨⟨⟨h1, h2⟩, h3⟩, h4⟩, h5⟩ := ho
      rw [eqV_eq h2, eqTr_eq (fun _ _ => eqV_eq) h3, eqNs_eq h4, eqSt_eq h5]
      cases oe <;> cases pe <;> first | rfl | cases h1
    · cases h
def okEnt (P : Program) (l : List (Nat × Nat × Nat)) (tab : List Ent) (n : Nat) (e : Ent) : Bool :=
  match eval P ⟨l, tab⟩ n (.call e.f e.args e.s) with
  | some o => eqOs o e.outs
  | none => false
theorem okEnt_cons {P : Program} (hm : P.follows .mixedOrders = true) (hN : okNames P = true) {l : List (Nat × Nat × Nat)} {tab : List Ent} (hP : PrimOk P ⟨l, tab⟩) (hT : TabOk P (AnyOk P) tab) {n : Nat} {e : Ent} (h : okEnt P l tab n e = true) : TabOk P (AnyOk P) (e :: tab) := by
  refine tab_cons hm hN hP hT (n := n) ?_
  unfold okEnt at h
  split at h
  · rename_i o ho
    rw [ho, eqOs_eq h]
  · cases h

/-- every answer is true -/
def allTrue : Res → Bool
  | none => false
  | some l => l.all fun o => match o.v with
    | .bool b => b
    | _ => false
def st0 : St := ⟨.e, 0, [], ⟨[], []⟩⟩
/-- nothing but what the packages' variables hold is known -/
def stG (gl : List (Nat × List AV)) : St := ⟨.e, 0, [], ⟨gl, []⟩⟩
theorem eval_trueG {P : Program} (hm : P.follows .mixedOrders = true) (hN : okNames P = true) {prims : Pr} (hP : PrimOk P prims) (hT : TabOk P (AnyOk P) prims.tab) {n f : Nat} {args : List AV} {VS : List Value} {gl : List (Nat × List AV)} (h : allTrue (eval P prims n (.call f args (stG gl))) = true)
    (ξ : Nat → Option Dat) (hVS : denL ⟨fun _ => none, ξ, fun _ _ => none⟩ args = some VS) (w : World) (hgl : GlobOk ⟨fun _ => none, ξ, fun _ _ => none⟩ gl w) :
    Calls P f VS.toArray w fun e w' => e = .returned (.bool true) ∧ Below w.heap.size w w' := by
  unfold allTrue at h
  split at h
  · cases h
  · rename_i l hl
    refine (eval_calls hm hN hP hT hl ξ _ hVS w ⟨hgl, fun t b hb => by cases hb⟩).mono fun e w' he => ?_
    obtain ⟨hb, o, ho, ν', V, _, h1, h2, _⟩ := he
    have := List.all_eq_true.1 h o ho
    split at this
    · rename_i b hv
      subst this
      rw [hv] at h1
      simp only [den, Option.some.injEq] at h1
      subst h1
      exact ⟨h2, hb⟩
    · cases this
theorem eval_true {P : Program} (hm : P.follows .mixedOrders = true) (hN : okNames P = true) {prims : Pr} (hP : PrimOk P prims) (hT : TabOk P (AnyOk P) prims.tab) {n f : Nat} {args : List AV} {VS : List Value} (h : allTrue (eval P prims n (.call f args st0)) = true) (ξ : Nat → Option Dat) (hVS : denL ⟨fun _ => none, ξ, fun _ _ => none⟩ args = some VS) (w : World) :
    Calls P f VS.toArray w fun e w' => e = .returned (.bool true) ∧ Below w.heap.size w w' :=
  eval_trueG hm hN hP hT h ξ hVS w fun g l hg => (by cases hg)

end Go.Proofs.YtdnnmflgchflgaaGreat
