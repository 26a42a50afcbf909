/- The evaluator, 23: a long loop, run in parts. No program in sight. -/
import Derived.Test.YtlijlapkhimaoaaGreatDoorE22
namespace Go.Proofs.YtlijlapkhimaoaaGreatDoor
open Go Go.RowKit
variable {P : Program} {prims : Pr}

/-- k rounds of a loop's body, the last with fuel m -/
def itL (P : Program) (prims : Pr) (m : Nat) (r : Option Nat) (c : Code) (N : Nat) (k : Nat) : Tr AV → List Nat → St → Option (Tr AV × List Nat × St) :=
  Nat.rec (fun T M s => some (T, M, s)) (fun k ih T M s => match eval P prims (m + k) (.code r c T N M s) with
    | some [o] => match o.e with
      | .norm => ih o.T o.M o.s
      | _ => none
    | _ => none) k

theorem itL_loop {m : Nat} {r : Option Nat} {c : Code} {N : Nat} : ∀ (k : Nat) {T T' : Tr AV} {M M' : List Nat} {s s' : St}, itL P prims m r c N k T M s = some (T', M', s') →
    eval P prims (m + k) (.code r (.loop c) T N M s) = eval P prims m (.code r (.loop c) T' N M' s')
  | 0, _, _, _, _, _, _, h => by
    injection h with h
    injection h with h1 h
    injection h with h2 h3
    subst h1 h2 h3
    rfl
  | k + 1, T, T', M, M', s, s', h => by
    have h' : (match eval P prims (m + k) (.code r c T N M s) with
      | some [o] => match o.e with
        | .norm => itL P prims m r c N k o.T o.M o.s
        | _ => none
      | _ => none) = some (T', M', s') := h
    show evCode P prims (eval P prims (m + k)) r (.loop c) T N M s = _
    unfold evCode
    simp only
    split at h'
    · rename_i o ho
      split at h'
      · rename_i he
        rw [ho]
        simp only [bindO, he]
        exact itL_loop k h'
      · cases h'
    · cases h'

theorem seq_eq {n : Nat} {r : Option Nat} {x y : Code} {T : Tr AV} {N : Nat} {M : List Nat} {s : St} {o : Out} (h : eval P prims n (.code r x T N M s) = some [o]) (he : o.e = .norm) :
    eval P prims (n + 1) (.code r (.seq x y) T N M s) = eval P prims n (.code r y o.T N o.M o.s) := by
  show evCode P prims (eval P prims n) r (.seq x y) T N M s = _
  unfold evCode
  simp only
  rw [h]
  simp only [bindO, he]

theorem block_eq {n id : Nat} {r : Option Nat} {c : Code} {T : Tr AV} {N : Nat} {M : List Nat} {s : St} {o : Out} (h : eval P prims n (.code r c T N M s) = some [o]) (he : o.e = .exit id) :
    eval P prims (n + 1) (.code r (.block id c) T N M s) = norm1 o.T o.M o.s := by
  show evCode P prims (eval P prims n) r (.block id c) T N M s = _
  unfold evCode
  simp only
  rw [h]
  have : Nat.beq id id = true := by simp
  simp only [bindO, he, this]

theorem call_eq {n f : Nat} {fn : Func} {c : Code} {args : List AV} {s : St} {l : List Out} (h1 : P.funcs[f]? = some fn) (h2 : fn.body = some c) (hb : eval P prims n (.code none c (argsA args 0 .e) fn.ntmps [] s) = some l) :
    eval P prims (n + 1) (.call f args s) = evCall P prims (fun _ => some l) f args s := by
  show evCall P prims (eval P prims n) f args s = _
  unfold evCall
  simp only [h1, h2, hb]

theorem okPEnt_of {l : List (Nat × Nat × Nat)} {ptab : List PEnt} {n : Nat} {e : PEnt} {outs : List Out} (h : eval P ⟨l, [], ptab⟩ n (.call e.f e.args ⟨.e, 0, [], ⟨e.gl, []⟩⟩) = some outs)
    (ho : (closedL e.args && closedV e.v && glOk e.gl && outs.all fun o => eqV o.v e.v) = true) : okPEnt P l ptab n e = true := by
  unfold okPEnt
  rw [h]
  exact ho

end Go.Proofs.YtlijlapkhimaoaaGreatDoor
