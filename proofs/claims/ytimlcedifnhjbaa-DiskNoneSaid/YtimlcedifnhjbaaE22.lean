/- The evaluator, 22: maps.clone; a law that answers true. No program in sight. -/
import Derived.Test.YtimlcedifnhjbaaE21
import Derived.Laws.Externs
import GoSem.Extern.Table
namespace Go.Proofs.Ytimlcedifnhjbaa
open Go Go.RowKit

/-- maps.clone alone is taken whole -/
theorem primOk_clone {P : Program} {f : Nat} {fn : Func} (hf : P.funcs[f]? = some fn) (hname : (fn.name == "runtime.NumGoroutine") = false) (hb : fn.body.isNone = true) (hn : Extern.findNext fn = none) (he : Extern.find fn = some Extern.MapsClone.clone) : PrimOk P [(f, 1, 0)] := by
  intro g k t hp w0 A ν s w args v s' VS hpr hW hVS
  simp only [primOf] at hp
  split at hp
  · rename_i hb'
    have := Nat.eq_of_beq_eq_true hb'
    subst this
    simp only [Option.some.injEq, Prod.mk.injEq] at hp
    obtain ⟨rfl, rfl⟩ := hp
    simp only [primA] at hpr
    split at hpr
    · rename_i u i
      split at hpr
      · rename_i es c hi
        simp only [Option.some.injEq, Prod.mk.injEq] at hpr
        obtain ⟨rfl, rfl⟩ := hpr
        obtain ⟨V, R, h1, h2, rfl⟩ := denL_cons hVS
        rw [denL_nil h2]
        simp only [den] at h1
        split at h1
        · rename_i U hU
          injection h1 with h1
          subst h1
          obtain ⟨gm, hgm, hUm⟩ := map_den (ν := ν) (i := i) (V := U) (by simpa [den] using hU)
          subst hUm
          obtain ⟨arr, h3, h4⟩ := hW.rrel.map_ trivial hi hgm
          have hk := hW.top s.n (Nat.le_refl _)
          have hle := Nm.le_set hk w.heap.size
          refine .inl ⟨.iface u (.map (some w.heap.size)), w.alloc (.map arr c), ?_, ν.set s.n w.heap.size, hle, hW.alloc (n' := s.n + 1) hk (by omega) (by omega) ?_, ?_⟩
          · rw [run_callFunc_extern hf hname hb hn he]
            have hg : (getObj gm).run P w = .ok (.map arr c) w := by simp [getObj, Sem.run, h3]
            have hc : (Extern.MapsClone.clone #[.iface u (.map (some gm))]).run P w = .ok (.iface u (.map (some w.heap.size))) (w.alloc (.map arr c)) := by
              show (Sem.bind (getObj gm) _).run P w = _
              rw [run_bind, hg]
              rfl
            show ((Extern.MapsClone.clone #[.iface u (.map (some gm))]).run P w).andThen _ = _
            rw [hc]
            rfl
          · exact ⟨rfl, All2.imp (fun e m hm => ⟨den_mono hle _ _ hm.1, den_mono hle _ _ hm.2.1, hm.2.2⟩) h4⟩
          · simp [den, Nm.set_same]
        · cases h1
      · cases hpr
    · cases hpr
  · cases hp

/-- every answer is true -/
def allTrue : Res → Bool
  | none => false
  | some l => l.all fun o => match o.v with
    | .bool b => b
    | _ => false
def st0 : St := ⟨.e, 0, []⟩
theorem eval_true {P : Program} (hm : P.follows .mixedOrders = true) (hN : okNames P = true) {prims : List (Nat × Nat × Nat)} (hP : PrimOk P prims) {n f : Nat} {args : List AV} {VS : List Value} (h : allTrue (eval P prims n (.call f args st0)) = true) (hVS : denL (fun _ => none) args = some VS) (w : World) :
    Calls P f VS.toArray w fun e w' => e = .returned (.bool true) ∧ Below w.heap.size w w' := by
  unfold allTrue at h
  split at h
  · cases h
  · rename_i l hl
    refine (eval_calls hm hN hP hl hVS w).mono fun e w' he => ?_
    obtain ⟨hb, o, ho, ν', V, h1, h2⟩ := he
    have := List.all_eq_true.1 h o ho
    split at this
    · rename_i b hv
      subst this
      rw [hv] at h1
      simp only [den, Option.some.injEq] at h1
      subst h1
      exact ⟨h2, hb⟩
    · cases this

end Go.Proofs.Ytimlcedifnhjbaa
