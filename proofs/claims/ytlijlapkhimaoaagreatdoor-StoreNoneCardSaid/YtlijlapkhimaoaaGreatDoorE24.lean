/- The evaluator, 24: what a listed package variable of whole numbers holds. No program in sight. -/
import Derived.Test.YtlijlapkhimaoaaGreatDoorE23
import Derived.OpenShut
import Derived.LaidMore
import GoSem.ClaimJoined
import Derived.FnData
import Derived.MakeChecks
namespace Go.Proofs.YtlijlapkhimaoaaGreatDoor
open Go Go.RowKit

theorem laid_mem {P : Program} {W : World} {n : String} {d : DataW Unit} : ∀ {laid : List (String × DataW Unit)} {ps : List MemPlace}, DataW.LaidVars P W laid ps → (n, d) ∈ laid →
    ∃ g t cs fuel p, P.globalNamed n = some g ∧ (P.globals[g]?).map (·.type) = some t ∧ W.var? P n = some cs ∧ DataW.trod (fun _ => ()) P W 0 (fun _ => true) false fuel t cs.toList = some (d, p)
  | [], _, _, hm => by cases hm
  | (m, e) :: r, ps, h, hm => by
    obtain ⟨g, t, cs, fuel, p, q, h1, h2, h3, h4, h5, _⟩ := h
    rcases List.mem_cons.1 hm with e' | hm
    · simp only [Prod.mk.injEq] at e'
      obtain ⟨rfl, rfl⟩ := e'
      exact ⟨g, t, cs, fuel, p, h1, h2, h3, h4⟩
    · exact laid_mem h5 hm

theorem ints_cells {H : Type} {enc : TypeId × Value → H} {P : Program} {w : World} {base : Nat} {spare : Nat → Bool} {held : Bool} {fuel : Nat} {t e : TypeId} {len : Nat} {k : IntKind} {cs : List Value} {ns : List Int} {p : List MemPlace}
    (ht : P.underlying t = some (.array len e)) (he : P.underlying e = some (.int k)) (hc : P.cellsOf e = 1)
    (h : DataW.trod enc P w base spare held fuel t cs = some (.agg (ns.map fun n => .lit (.int k n)), p)) {i : Nat} {n : Int} (hi : ns[i]? = some n) : cs[i]? = some (.int k n) := by
  obtain ⟨xs, m, rfl, hx, hlen, hn, hel⟩ := DataW.trod_array ht h
  simp only [Prod.mk.injEq, DataW.agg.injEq] at hx
  have hl : xs.length = ns.length := by
    have := congrArg List.length hx.1
    simpa using this.symm
  have hlt : i < ns.length := (List.getElem?_eq_some_iff.1 hi).1
  have hx0 := hel i (by omega)
  have hxi : xs[i]? = some xs[i] := List.getElem?_eq_getElem (by omega)
  rw [hxi, hc] at hx0
  obtain ⟨r, e1, e2, _⟩ := DataW.trod_int he hx0
  have h1 : (xs.map (·.1))[i]? = some (.lit (.int k n)) := by rw [← hx.1, List.getElem?_map, hi]; rfl
  rw [List.getElem?_map, hxi, e2] at h1
  simp only [Option.map_some, Option.some.injEq, DataW.lit.injEq, Lit.int.injEq, true_and] at h1
  subst h1
  have h2 := congrArg (fun l => l[0]?) e1
  simpa [List.getElem?_take, List.getElem?_drop] using h2

/-- a listed variable of whole numbers: its cells -/
theorem globOk_ints {P : Program} {W : World} {laid : List (String × DataW Unit)} {n : String} {g : Nat} {t e : TypeId} {len : Nat} {k : IntKind} {ns : List Int} {ν : Nm}
    (h : laidMetH P laid W) (hp : (laid.all fun x => x.2.handleName?.isNone) = true) (hm : (n, .agg (ns.map fun n => .lit (.int k n))) ∈ laid)
    (hg : P.globalNamed n = some g) (hty : (P.globals[g]?).map (·.type) = some t) (ht : P.underlying t = some (.array len e)) (he : P.underlying e = some (.int k)) (hc : P.cellsOf e = 1) :
    GlobOk ν [(g, ns.map fun n => .int k n)] W := by
  rw [MakeChecks.laidMetH_plain _ _ _ hp] at h
  obtain ⟨ps, h1, _⟩ := h
  obtain ⟨g', t', cs, fuel, p, k1, k2, k3, k4⟩ := laid_mem h1 hm
  obtain rfl := Option.some.inj (hg.symm.trans k1)
  obtain rfl := Option.some.inj (hty.symm.trans k2)
  intro g2 l hl i v hv
  simp only [List.mem_singleton, Prod.mk.injEq] at hl
  obtain ⟨rfl, rfl⟩ := hl
  rw [List.getElem?_map] at hv
  cases hi : ns[i]? with
  | none => rw [hi] at hv; cases hv
  | some x =>
    rw [hi] at hv
    simp only [Option.map_some, Option.some.injEq] at hv
    subst hv
    refine ⟨.int k x, rfl, ?_⟩
    rw [World.var?_cell hg k3 i]
    simpa using ints_cells ht he hc k4 hi
theorem globOk_cons {ν : Nm} {W : World} {x : Nat × List AV} {gl : List (Nat × List AV)} (h : GlobOk ν [x] W) (hl : GlobOk ν gl W) : GlobOk ν (x :: gl) W := fun g l hm => by
  rcases List.mem_cons.1 hm with e | hm
  · exact h g l (by rw [e]; exact List.mem_singleton.2 rfl)
  · exact hl g l hm

/-! ### calls that are known: what they answer stands for what the run answers, up to new names -/
def covO (gl : List (Nat × List AV)) (n0 : Nat) (o p : Out) : Bool :=
  sameI n0 o p && eqGl o.s.x.gl gl && o.s.log.all fun x => Nat.ble n0 x || p.s.log.any (Nat.beq x)
theorem covO_spec {gl : List (Nat × List AV)} {n0 : Nat} {o p : Out} (h : covO gl n0 o p = true) : CovI n0 p o ∧ o.s.x.gl = gl := by
  unfold covO at h
  simp only [Bool.and_eq_true] at h
  obtain ⟨⟨h1, h2⟩, h3⟩ := h
  refine ⟨?_, eqGl_eq h2⟩
  have := sameI_spec h1 (lg := p.s.log) fun x hx hlt => by
    have := List.all_eq_true.1 h3 x hx
    rw [Bool.or_eq_true] at this
    rcases this with h | h
    · have := Nat.le_of_ble_eq_true h
      omega
    · obtain ⟨y, hy, hb⟩ := List.any_eq_true.1 h
      rw [Nat.eq_of_beq_eq_true hb]
      exact hy
  exact this
def okEntI (P : Program) (l : List (Nat × Nat × Nat)) (tab : List Ent) (ptab : List PEnt) (n : Nat) (e : Ent) : Bool :=
  match eval P ⟨l, tab, ptab⟩ n (.call e.f e.args e.s) with
  | some outs => outs.all fun o => e.outs.any (covO e.s.x.gl e.s.n o)
  | none => false
theorem okEntI_cons {P : Program} (hm : P.follows .mixedOrders = true) (hN : okNames P = true) {l : List (Nat × Nat × Nat)} {tab : List Ent} {ptab : List PEnt} (hP : PrimOk P ⟨l, tab, ptab⟩) (hT : TabOk P (AnyOk P) tab) (hPT : PTabOk P ptab) {n : Nat} {e : Ent} (h : okEntI P l tab ptab n e = true) : TabOk P (AnyOk P) (e :: tab) := fun x hx => by
  rcases List.mem_cons.1 hx with rfl | hx
  · unfold okEntI at h
    split at h
    · rename_i outs ho
      obtain ⟨h1, h2⟩ : SoundReq P (AnyOk P) n outs (.call x.f x.args x.s) := eval_sound hm hN hP hT hPT n _ _ ho
      refine ⟨h1, fun w0 A ν w VS hW hVS => Calls.mono (h2 w0 A ν w VS hW hVS) fun r w' hr => ?_⟩
      obtain ⟨o, hoo, ν', V, k1, k2, k3, k4⟩ := hr
      obtain ⟨p, hp, hc⟩ := List.any_eq_true.1 (List.all_eq_true.1 h o hoo)
      obtain ⟨⟨_, _, c3⟩, c4⟩ := covO_spec hc
      obtain ⟨ν'', m1, m2, m3⟩ := c3 P w0 w' A ν ν' k1 hW.top hW.ext (by rw [c4]; exact hW.ctx.gl) k2
      exact ⟨p, hp, ν'', V, m1, m2, m3.trans k3, k4⟩
    · cases h
  · exact hT x hx

end Go.Proofs.YtlijlapkhimaoaaGreatDoor
