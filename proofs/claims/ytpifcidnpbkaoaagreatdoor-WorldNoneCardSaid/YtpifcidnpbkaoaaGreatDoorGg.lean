/- The evaluator, 22: maps.clone; a law that answers true. No program in sight. -/
import Derived.Test.YtpifcidnpbkaoaaGreatDoorGf
import Derived.Laws.Externs
import GoSem.Extern.Table
import Derived.OpenShut
import Derived.LaidMore
import GoSem.ClaimJoined
import Derived.FnData
import Derived.MakeChecks
import Derived.Test.YtpifcidnpbkaoaaGreatDoorGa
import Derived.ProofKit
import Derived.ChangeArms
namespace Go.Proofs.YtpifcidnpbkaoaaGreatDoor
open Go Go.RowKit

/-- maps.clone alone is taken whole -/
theorem primOk_clone {P : Program} {f : Nat} {fn : Func} (hf : P.funcs[f]? = some fn) (hname : (fn.name == "runtime.NumGoroutine") = false) (hb : fn.body.isNone = true) (hn : Extern.findNext fn = none) (he : Extern.find fn = some Extern.MapsClone.clone) {tab : List Ent} {ptab : List PEnt} : PrimOk P ⟨[(f, 1, 0)], tab, ptab⟩ := by
  intro g k t hp w0 A ν s w args v s' VS hpr hW hVS
  simp only [primOf, primIn] at hp
  split at hp
  · rename_i hb'
    have := Nat.eq_of_beq_eq_true hb'
    subst this
    simp only [Option.some.injEq, Prod.mk.injEq] at hp
    obtain ⟨rfl, rfl⟩ := hp
    simp only [primA] at hpr
    split at hpr
    · rename_i u i
      split at hpr
      · rename_i es c hi
        simp only [Option.some.injEq, Prod.mk.injEq] at hpr
        obtain ⟨rfl, rfl⟩ := hpr
        obtain ⟨V, R, h1, h2, rfl⟩ := denL_cons hVS
        rw [denL_nil h2]
        simp only [den] at h1
        split at h1
        · rename_i U hU
          injection h1 with h1
          subst h1
          obtain ⟨gm, hgm, hUm⟩ := map_den (ν := ν) (i := i) (V := U) (by simpa [den] using hU)
          subst hUm
          obtain ⟨arr, h3, h4⟩ := hW.rrel.map_ trivial hi hgm
          have hk := hW.top s.n (Nat.le_refl _)
          have hle := Nm.le_set hk w.heap.size
          refine .inl ⟨.iface u (.map (some w.heap.size)), w.alloc (.map arr c), ?_, ν.set s.n w.heap.size, hle, hW.alloc (n' := s.n + 1) hk (by omega) (by omega) ?_, ?_⟩
          · rw [run_callFunc_extern hf hname hb hn he]
            have hg : (getObj gm).run P w = .ok (.map arr c) w := by simp [getObj, Sem.run, h3]
            have hc : (Extern.MapsClone.clone #[.iface u (.map (some gm))]).run P w = .ok (.iface u (.map (some w.heap.size))) (w.alloc (.map arr c)) := by
              show (Sem.bind (getObj gm) _).run P w = _
              rw [run_bind, hg]
              rfl
            show ((Extern.MapsClone.clone #[.iface u (.map (some gm))]).run P w).andThen _ = _
            rw [hc]
            rfl
          · exact ⟨rfl, All2.imp (fun e m hm => ⟨den_mono hle _ _ hm.1, den_mono hle _ _ hm.2.1, hm.2.2⟩) h4⟩
          · simp [den, Nm.set_same]
        · cases h1
      · cases hpr
    · cases hpr
  · cases hp

/-- abi.NoEscape gives back what it is given -/
theorem primOk_noEscape {P : Program} {f : Nat} {fn : Func} (hf : P.funcs[f]? = some fn) (hname : (fn.name == "runtime.NumGoroutine") = false) (hb : fn.body.isNone = true) (hn : Extern.findNext fn = none) (he : Extern.find fn = some Extern.AbiNoEscape.same) {tab : List Ent} {ptab : List PEnt} : PrimOk P ⟨[(f, 2, 0)], tab, ptab⟩ := by
  intro g k t hp w0 A ν s w args v s' VS hpr hW hVS
  simp only [primOf, primIn] at hp
  split at hp
  · rename_i hb'
    have := Nat.eq_of_beq_eq_true hb'
    subst this
    simp only [Option.some.injEq, Prod.mk.injEq] at hp
    obtain ⟨rfl, rfl⟩ := hp
    simp only [primA] at hpr
    split at hpr
    · rename_i x
      simp only [Option.some.injEq, Prod.mk.injEq] at hpr
      obtain ⟨rfl, rfl⟩ := hpr
      obtain ⟨V, R, h1, h2, rfl⟩ := denL_cons hVS
      rw [denL_nil h2]
      refine .inl ⟨V, w, ?_, ν, Nm.le.refl _, hW, h1⟩
      rw [run_callFunc_extern hf hname hb hn he]
      rfl
    · cases hpr
  · cases hp
theorem findByte_spec (s : ByteArray) (c : Nat) (hc : c < 256) : ∀ (l pre : List UInt8), s.data.toList = pre ++ l → findByte c l pre.length = match (List.range' pre.length l.length).find? (fun i => s[i]! == UInt8.ofNat c) with | some i => (i : Int) | none => -1
  | [], _, _ => rfl
  | b :: l, pre, h => by
    have hs : pre.length < s.size := by
      have : s.data.toList.length = s.size := Array.length_toList
      rw [← this, h]
      simp
    have hb : s[pre.length]! = b := by
      rw [getElem!_pos s pre.length hs]
      show s.data[pre.length] = b
      have : s.data.toList[pre.length]? = some b := by
        rw [h, List.getElem?_append_right (Nat.le_refl _), Nat.sub_self]
        rfl
      rw [Array.getElem?_toList] at this
      exact (Array.getElem?_eq_some_iff.1 this).2
    have hcb : (b == UInt8.ofNat c) = Nat.beq b.toNat c := by
      cases hq : Nat.beq b.toNat c with
      | true =>
        have := Nat.eq_of_beq_eq_true hq
        rw [← this, UInt8.ofNat_toNat]
        exact beq_self_eq_true b
      | false =>
        have := Nat.ne_of_beq_eq_false hq
        rw [beq_eq_false_iff_ne]
        intro e
        refine this ?_
        rw [e, UInt8.toNat_ofNat']
        exact Nat.mod_eq_of_lt hc
    rw [List.length_cons, List.range'_succ, List.find?_cons, hb, hcb]
    unfold findByte
    cases hq : Nat.beq b.toNat c with
    | true => rfl
    | false =>
      have := findByte_spec s c hc l (pre ++ [b]) (by rw [h, List.append_assoc]; rfl)
      simpa using this
theorem primOk_indexByte {P : Program} {f : Nat} {fn : Func} (hf : P.funcs[f]? = some fn) (hname : (fn.name == "runtime.NumGoroutine") = false) (hb : fn.body.isNone = true) (hn : Extern.findNext fn = none) (he : Extern.find fn = some Extern.BytealgIndexByte.indexByte) {tab : List Ent} {ptab : List PEnt} : PrimOk P ⟨[(f, 5, 0)], tab, ptab⟩ := by
  intro g k t hp w0 A ν s w args v s' VS hpr hW hVS
  simp only [primOf, primIn] at hp
  split at hp
  · rename_i hb'
    have := Nat.eq_of_beq_eq_true hb'
    subst this
    simp only [Option.some.injEq, Prod.mk.injEq] at hp
    obtain ⟨rfl, rfl⟩ := hp
    simp only [primA] at hpr
    split at hpr
    · rename_i b c
      split at hpr
      · rename_i hc
        have hc := Nat.le_of_ble_eq_true hc
        simp only [Option.some.injEq, Prod.mk.injEq] at hpr
        obtain ⟨rfl, rfl⟩ := hpr
        obtain ⟨V, R, h1, h2, rfl⟩ := denL_cons hVS
        obtain ⟨U, R', h3, h4, rfl⟩ := denL_cons h2
        rw [denL_nil h4]
        simp only [den, Option.some.injEq] at h1 h3
        subst h1 h3
        refine .inl ⟨.int .i64 (findByte c b 0), w, ?_, ν, Nm.le.refl _, hW, rfl⟩
        rw [run_callFunc_extern hf hname hb hn he]
        show ((Extern.BytealgIndexByte.indexByte #[.string ⟨b.toArray⟩, .int .u8 (.ofNat c)]).run P w).andThen _ = _
        rw [run_indexByte_string]
        have hfi : firstIdx ⟨b.toArray⟩ (Int.ofNat c).toNat.toUInt8 = findByte c b 0 := by
          have h := findByte_spec ⟨b.toArray⟩ c (by omega) b [] (by simp)
          simp only [List.length_nil] at h
          rw [h]
          unfold firstIdx
          have hsz : (ByteArray.mk b.toArray).size = b.length := by simp [ByteArray.size]
          rw [hsz, List.range_eq_range']
          rfl
        rw [hfi]
        rfl
      · cases hpr
    · cases hpr
  · cases hp
theorem primOk_cons {P : Program} {f k t : Nat} {l : List (Nat × Nat × Nat)} {tab : List Ent} {ptab : List PEnt} (h : PrimOk P ⟨[(f, k, t)], tab, ptab⟩) (hl : PrimOk P ⟨l, tab, ptab⟩) : PrimOk P ⟨(f, k, t) :: l, tab, ptab⟩ := by
  intro g k' t' hp
  simp only [primOf, primIn] at hp
  split at hp
  · rename_i hb
    simp only [Option.some.injEq, Prod.mk.injEq] at hp
    obtain ⟨rfl, rfl⟩ := hp
    exact h g k t (by simp only [primOf, primIn, hb])
  · exact hl g k' t' hp
theorem primOk_nil {P : Program} {tab : List Ent} {ptab : List PEnt} : PrimOk P ⟨[], tab, ptab⟩ := fun g k t h => by cases h

/-! ### calls that are run once, and known from then on -/
def eqO (o p : Out) : Bool := (match o.e, p.e with | .norm, .norm => true | .ret, .ret => true | _, _ => false) && eqV o.v p.v && eqTr eqV o.T p.T && eqNs o.M p.M && eqSt o.s p.s
def eqOs : List Out → List Out → Bool
  | [], [] => true
  | o :: l, p :: m => match eqO o p with
    | true => eqOs l m
    | false => false
  | _, _ => false
theorem eqOs_eq : ∀ {a b : List Out}, eqOs a b = true → a = b
  | [], [], _ => rfl
  | [], _ :: _, h => by cases h
  | _ :: _, [], h => by cases h
  | o :: l, p :: m, h => by
    unfold eqOs at h
    split at h
    · rename_i ho
      rw [eqOs_eq h]
      congr 1
      obtain ⟨oe, ov, oT, oM, os⟩ := o
      obtain ⟨pe, pv, pT, pM, ps⟩ := p
      unfold eqO at ho
      simp only [Bool.and_eq_true] at ho
      obtain ⟨⟨⟨⟨h1, h2⟩, h3⟩, h4⟩, h5⟩ := ho
      rw [eqV_eq h2, eqTr_eq (fun _ _ => eqV_eq) h3, eqNs_eq h4, eqSt_eq h5]
      cases oe <;> cases pe <;> first | rfl | cases h1
    · cases h
def okEnt (P : Program) (l : List (Nat × Nat × Nat)) (tab : List Ent) (ptab : List PEnt) (n : Nat) (e : Ent) : Bool :=
  match eval P ⟨l, tab, ptab⟩ n (.call e.f e.args e.s) with
  | some o => eqOs o e.outs
  | none => false
theorem okEnt_cons {P : Program} (hm : P.follows .mixedOrders = true) (hN : okNames P = true) {l : List (Nat × Nat × Nat)} {tab : List Ent} {ptab : List PEnt} (hP : PrimOk P ⟨l, tab, ptab⟩) (hT : TabOk P (AnyOk P) tab) (hPT : PTabOk P ptab) {n : Nat} {e : Ent} (h : okEnt P l tab ptab n e = true) : TabOk P (AnyOk P) (e :: tab) := by
  refine tab_cons hm hN hP hT hPT (n := n) ?_
  unfold okEnt at h
  split at h
  · rename_i o ho
    rw [ho, eqOs_eq h]
  · cases h
def glOk : List (Nat × List AV) → Bool
  | [] => true
  | (_, l) :: r => (l.all fun v => closedV v || (match v with | .ext _ => true | _ => false)) && glOk r
theorem glOk_spec {gl : List (Nat × List AV)} (h : glOk gl = true) : ∀ g l, (g, l) ∈ gl → ∀ v ∈ l, closedV v = true ∨ ∃ i, v = .ext i := by
  induction gl with
  | nil => intro g l hm; cases hm
  | cons p r ih =>
    obtain ⟨k, m⟩ := p
    simp only [glOk, Bool.and_eq_true] at h
    intro g l hm v hv
    rcases List.mem_cons.1 hm with e | hm
    · simp only [Prod.mk.injEq] at e
      obtain ⟨rfl, rfl⟩ := e
      have := List.all_eq_true.1 h.1 v hv
      rw [Bool.or_eq_true] at this
      rcases this with h | h
      · exact .inl h
      · split at h
        · exact .inr ⟨_, rfl⟩
        · cases h
    · exact ih h.2 g l hm v hv
def okPEnt (P : Program) (l : List (Nat × Nat × Nat)) (ptab : List PEnt) (n : Nat) (e : PEnt) : Bool :=
  closedL e.args && closedV e.v && glOk e.gl && match eval P ⟨l, [], ptab⟩ n (.call e.f e.args ⟨.e, 0, [], ⟨e.gl, []⟩⟩) with
  | some outs => outs.all fun o => eqV o.v e.v
  | none => false
theorem okPEnt_cons {P : Program} (hm : P.follows .mixedOrders = true) (hN : okNames P = true) {l : List (Nat × Nat × Nat)} {ptab : List PEnt} (hP : PrimOk P ⟨l, [], ptab⟩) (hPT : PTabOk P ptab) {n : Nat} {e : PEnt} (h : okPEnt P l ptab n e = true) : PTabOk P (e :: ptab) := fun x hx => by
  rcases List.mem_cons.1 hx with rfl | hx
  · unfold okPEnt at h
    simp only [Bool.and_eq_true] at h
    obtain ⟨⟨⟨h1, h2⟩, h3⟩, h4⟩ := h
    split at h4
    · rename_i outs ho
      refine ⟨h1, h2, (eval_sound hm hN hP tab_nil hPT n _ _ ho).1, fun ν w VS hgl hVS => ?_⟩
      have hgl' : GlobOk ⟨fun _ => none, ν.x, ν.u⟩ x.gl w := fun g m hm' i v hv => by
        obtain ⟨V, k1, k2⟩ := hgl g m hm' i v hv
        refine ⟨V, ?_, k2⟩
        rcases glOk_spec h3 g m hm' v (List.mem_of_getElem? hv) with hc | ⟨j, rfl⟩
        · rw [closed_den _ ν v hc]; exact k1
        · exact k1
      refine (eval_calls hm hN hP tab_nil hPT ho ν.x ν.u (by rw [closed_denL _ ν _ h1]; exact hVS) w ⟨hgl', fun t b hb => by cases hb⟩).mono fun r w' hr => ?_
      obtain ⟨hb, o, hoo, ν', V, _, k1, k2, _⟩ := hr
      refine ⟨hb, V, ?_, k2⟩
      rw [← eqV_eq (List.all_eq_true.1 h4 o hoo)]
      rw [closed_den ν ν' _ (by rw [eqV_eq (List.all_eq_true.1 h4 o hoo)]; exact h2)]
      exact k1
    · cases h4
  · exact hPT x hx
theorem ptab_nil {P : Program} : PTabOk P [] := fun x hx => by cases hx

/-- every answer is true -/
def allTrue : Res → Bool
  | none => false
  | some l => l.all fun o => match o.v with
    | .bool b => b
    | _ => false
def st0 : St := ⟨.e, 0, [], ⟨[], []⟩⟩
/-- nothing but what the packages' variables hold is known -/
def stG (gl : List (Nat × List AV)) : St := ⟨.e, 0, [], ⟨gl, []⟩⟩
theorem eval_trueG {P : Program} (hm : P.follows .mixedOrders = true) (hN : okNames P = true) {prims : Pr} (hP : PrimOk P prims) (hT : TabOk P (AnyOk P) prims.tab) (hPT : PTabOk P prims.ptab) {n f : Nat} {args : List AV} {VS : List Value} {gl : List (Nat × List AV)} (h : allTrue (eval P prims n (.call f args (stG gl))) = true)
    (ξ : Nat → Option Dat) (hVS : denL ⟨fun _ => none, ξ, fun _ _ => none⟩ args = some VS) (w : World) (hgl : GlobOk ⟨fun _ => none, ξ, fun _ _ => none⟩ gl w) :
    Calls P f VS.toArray w fun e w' => e = .returned (.bool true) ∧ Below w.heap.size w w' := by
  unfold allTrue at h
  split at h
  · cases h
  · rename_i l hl
    refine (eval_calls hm hN hP hT hPT hl ξ _ hVS w ⟨hgl, fun t b hb => by cases hb⟩).mono fun e w' he => ?_
    obtain ⟨hb, o, ho, ν', V, _, h1, h2, _⟩ := he
    have := List.all_eq_true.1 h o ho
    split at this
    · rename_i b hv
      subst this
      rw [hv] at h1
      simp only [den, Option.some.injEq] at h1
      subst h1
      exact ⟨h2, hb⟩
    · cases this
theorem eval_true {P : Program} (hm : P.follows .mixedOrders = true) (hN : okNames P = true) {prims : Pr} (hP : PrimOk P prims) (hT : TabOk P (AnyOk P) prims.tab) (hPT : PTabOk P prims.ptab) {n f : Nat} {args : List AV} {VS : List Value} (h : allTrue (eval P prims n (.call f args st0)) = true) (ξ : Nat → Option Dat) (hVS : denL ⟨fun _ => none, ξ, fun _ _ => none⟩ args = some VS) (w : World) :
    Calls P f VS.toArray w fun e w' => e = .returned (.bool true) ∧ Below w.heap.size w w' :=
  eval_trueG hm hN hP hT hPT h ξ hVS w fun g l hg => (by cases hg)

end Go.Proofs.YtpifcidnpbkaoaaGreatDoor

/- The evaluator, 23: a long loop, run in parts. No program in sight. -/
namespace Go.Proofs.YtpifcidnpbkaoaaGreatDoor
open Go Go.RowKit
variable {P : Program} {prims : Pr}

/-- k rounds of a loop's body, the last with fuel m -/
def itL (P : Program) (prims : Pr) (m : Nat) (r : Option Nat) (c : Code) (N : Nat) (k : Nat) : Tr AV → List Nat → St → Option (Tr AV × List Nat × St) :=
  Nat.rec (fun T M s => some (T, M, s)) (fun k ih T M s => match eval P prims (m + k) (.code r c T N M s) with
    | some [o] => match o.e with
      | .norm => ih o.T o.M o.s
      | _ => none
    | _ => none) k

theorem itL_loop {m : Nat} {r : Option Nat} {c : Code} {N : Nat} : ∀ (k : Nat) {T T' : Tr AV} {M M' : List Nat} {s s' : St}, itL P prims m r c N k T M s = some (T', M', s') →
    eval P prims (m + k) (.code r (.loop c) T N M s) = eval P prims m (.code r (.loop c) T' N M' s')
  | 0, _, _, _, _, _, _, h => by
    injection h with h
    injection h with h1 h
    injection h with h2 h3
    subst h1 h2 h3
    rfl
  | k + 1, T, T', M, M', s, s', h => by
    have h' : (match eval P prims (m + k) (.code r c T N M s) with
      | some [o] => match o.e with
        | .norm => itL P prims m r c N k o.T o.M o.s
        | _ => none
      | _ => none) = some (T', M', s') := h
    show evCode P prims (eval P prims (m + k)) r (.loop c) T N M s = _
    unfold evCode
    simp only
    split at h'
    · rename_i o ho
      split at h'
      · rename_i he
        rw [ho]
        simp only [bindO, he]
        exact itL_loop k h'
      · cases h'
    · cases h'

theorem seq_eq {n : Nat} {r : Option Nat} {x y : Code} {T : Tr AV} {N : Nat} {M : List Nat} {s : St} {o : Out} (h : eval P prims n (.code r x T N M s) = some [o]) (he : o.e = .norm) :
    eval P prims (n + 1) (.code r (.seq x y) T N M s) = eval P prims n (.code r y o.T N o.M o.s) := by
  show evCode P prims (eval P prims n) r (.seq x y) T N M s = _
  unfold evCode
  simp only
  rw [h]
  simp only [bindO, he]

theorem block_eq {n id : Nat} {r : Option Nat} {c : Code} {T : Tr AV} {N : Nat} {M : List Nat} {s : St} {o : Out} (h : eval P prims n (.code r c T N M s) = some [o]) (he : o.e = .exit id) :
    eval P prims (n + 1) (.code r (.block id c) T N M s) = norm1 o.T o.M o.s := by
  show evCode P prims (eval P prims n) r (.block id c) T N M s = _
  unfold evCode
  simp only
  rw [h]
  have : Nat.beq id id = true := by simp
  simp only [bindO, he, this]

theorem call_eq {n f : Nat} {fn : Func} {c : Code} {args : List AV} {s : St} {l : List Out} (h1 : P.funcs[f]? = some fn) (h2 : fn.body = some c) (hb : eval P prims n (.code none c (argsA args 0 .e) fn.ntmps [] s) = some l) :
    eval P prims (n + 1) (.call f args s) = evCall P prims (fun _ => some l) f args s := by
  show evCall P prims (eval P prims n) f args s = _
  unfold evCall
  simp only [h1, h2, hb]

theorem okPEnt_of {l : List (Nat × Nat × Nat)} {ptab : List PEnt} {n : Nat} {e : PEnt} {outs : List Out} (h : eval P ⟨l, [], ptab⟩ n (.call e.f e.args ⟨.e, 0, [], ⟨e.gl, []⟩⟩) = some outs)
    (ho : (closedL e.args && closedV e.v && glOk e.gl && outs.all fun o => eqV o.v e.v) = true) : okPEnt P l ptab n e = true := by
  unfold okPEnt
  rw [h]
  exact ho

end Go.Proofs.YtpifcidnpbkaoaaGreatDoor

/- The evaluator, 24: what a listed package variable of whole numbers holds. No program in sight. -/
namespace Go.Proofs.YtpifcidnpbkaoaaGreatDoor
open Go Go.RowKit

theorem laid_mem {P : Program} {W : World} {n : String} {d : DataW Unit} : ∀ {laid : List (String × DataW Unit)} {ps : List MemPlace}, DataW.LaidVars P W laid ps → (n, d) ∈ laid →
    ∃ g t cs fuel p, P.globalNamed n = some g ∧ (P.globals[g]?).map (·.type) = some t ∧ W.var? P n = some cs ∧ DataW.trod (fun _ => ()) P W 0 (fun _ => true) false fuel t cs.toList = some (d, p)
  | [], _, _, hm => by cases hm
  | (m, e) :: r, ps, h, hm => by
    obtain ⟨g, t, cs, fuel, p, q, h1, h2, h3, h4, h5, _⟩ := h
    rcases List.mem_cons.1 hm with e' | hm
    · simp only [Prod.mk.injEq] at e'
      obtain ⟨rfl, rfl⟩ := e'
      exact ⟨g, t, cs, fuel, p, h1, h2, h3, h4⟩
    · exact laid_mem h5 hm

theorem ints_cells {H : Type} {enc : TypeId × Value → H} {P : Program} {w : World} {base : Nat} {spare : Nat → Bool} {held : Bool} {fuel : Nat} {t e : TypeId} {len : Nat} {k : IntKind} {cs : List Value} {ns : List Int} {p : List MemPlace}
    (ht : P.underlying t = some (.array len e)) (he : P.underlying e = some (.int k)) (hc : P.cellsOf e = 1)
    (h : DataW.trod enc P w base spare held fuel t cs = some (.agg (ns.map fun n => .lit (.int k n)), p)) {i : Nat} {n : Int} (hi : ns[i]? = some n) : cs[i]? = some (.int k n) := by
  obtain ⟨xs, m, rfl, hx, hlen, hn, hel⟩ := DataW.trod_array ht h
  simp only [Prod.mk.injEq, DataW.agg.injEq] at hx
  have hl : xs.length = ns.length := by
    have := congrArg List.length hx.1
    simpa using this.symm
  have hlt : i < ns.length := (List.getElem?_eq_some_iff.1 hi).1
  have hx0 := hel i (by omega)
  have hxi : xs[i]? = some xs[i] := List.getElem?_eq_getElem (by omega)
  rw [hxi, hc] at hx0
  obtain ⟨r, e1, e2, _⟩ := DataW.trod_int he hx0
  have h1 : (xs.map (·.1))[i]? = some (.lit (.int k n)) := by rw [← hx.1, List.getElem?_map, hi]; rfl
  rw [List.getElem?_map, hxi, e2] at h1
  simp only [Option.map_some, Option.some.injEq, DataW.lit.injEq, Lit.int.injEq, true_and] at h1
  subst h1
  have h2 := congrArg (fun l => l[0]?) e1
  simpa [List.getElem?_take, List.getElem?_drop] using h2

/-- a listed variable of whole numbers: its cells -/
theorem globOk_ints {P : Program} {W : World} {laid : List (String × DataW Unit)} {n : String} {g : Nat} {t e : TypeId} {len : Nat} {k : IntKind} {ns : List Int} {ν : Nm}
    (h : laidMetH P laid W) (hp : (laid.all fun x => x.2.handleName?.isNone) = true) (hm : (n, .agg (ns.map fun n => .lit (.int k n))) ∈ laid)
    (hg : P.globalNamed n = some g) (hty : (P.globals[g]?).map (·.type) = some t) (ht : P.underlying t = some (.array len e)) (he : P.underlying e = some (.int k)) (hc : P.cellsOf e = 1) :
    GlobOk ν [(g, ns.map fun n => .int k n)] W := by
  rw [MakeChecks.laidMetH_plain _ _ _ hp] at h
  obtain ⟨ps, h1, _⟩ := h
  obtain ⟨g', t', cs, fuel, p, k1, k2, k3, k4⟩ := laid_mem h1 hm
  obtain rfl := Option.some.inj (hg.symm.trans k1)
  obtain rfl := Option.some.inj (hty.symm.trans k2)
  intro g2 l hl i v hv
  simp only [List.mem_singleton, Prod.mk.injEq] at hl
  obtain ⟨rfl, rfl⟩ := hl
  rw [List.getElem?_map] at hv
  cases hi : ns[i]? with
  | none => rw [hi] at hv; cases hv
  | some x =>
    rw [hi] at hv
    simp only [Option.map_some, Option.some.injEq] at hv
    subst hv
    refine ⟨.int k x, rfl, ?_⟩
    rw [World.var?_cell hg k3 i]
    simpa using ints_cells ht he hc k4 hi
theorem globOk_cons {ν : Nm} {W : World} {x : Nat × List AV} {gl : List (Nat × List AV)} (h : GlobOk ν [x] W) (hl : GlobOk ν gl W) : GlobOk ν (x :: gl) W := fun g l hm => by
  rcases List.mem_cons.1 hm with e | hm
  · exact h g l (by rw [e]; exact List.mem_singleton.2 rfl)
  · exact hl g l hm

/-! ### calls that are known: what they answer stands for what the run answers, up to new names -/
def covO (gl : List (Nat × List AV)) (n0 : Nat) (o p : Out) : Bool :=
  sameI n0 o p && eqGl o.s.x.gl gl && o.s.log.all fun x => Nat.ble n0 x || p.s.log.any (Nat.beq x)
theorem covO_spec {gl : List (Nat × List AV)} {n0 : Nat} {o p : Out} (h : covO gl n0 o p = true) : CovI n0 p o ∧ o.s.x.gl = gl := by
  unfold covO at h
  simp only [Bool.and_eq_true] at h
  obtain ⟨⟨h1, h2⟩, h3⟩ := h
  refine ⟨?_, eqGl_eq h2⟩
  have := sameI_spec h1 (lg := p.s.log) fun x hx hlt => by
    have := List.all_eq_true.1 h3 x hx
    rw [Bool.or_eq_true] at this
    rcases this with h | h
    · have := Nat.le_of_ble_eq_true h
      omega
    · obtain ⟨y, hy, hb⟩ := List.any_eq_true.1 h
      rw [Nat.eq_of_beq_eq_true hb]
      exact hy
  exact this
def okEntI (P : Program) (l : List (Nat × Nat × Nat)) (tab : List Ent) (ptab : List PEnt) (n : Nat) (e : Ent) : Bool :=
  match eval P ⟨l, tab, ptab⟩ n (.call e.f e.args e.s) with
  | some outs => outs.all fun o => e.outs.any (covO e.s.x.gl e.s.n o)
  | none => false
theorem okEntI_cons {P : Program} (hm : P.follows .mixedOrders = true) (hN : okNames P = true) {l : List (Nat × Nat × Nat)} {tab : List Ent} {ptab : List PEnt} (hP : PrimOk P ⟨l, tab, ptab⟩) (hT : TabOk P (AnyOk P) tab) (hPT : PTabOk P ptab) {n : Nat} {e : Ent} (h : okEntI P l tab ptab n e = true) : TabOk P (AnyOk P) (e :: tab) := fun x hx => by
  rcases List.mem_cons.1 hx with rfl | hx
  · unfold okEntI at h
    split at h
    · rename_i outs ho
      obtain ⟨h1, h2⟩ : SoundReq P (AnyOk P) n outs (.call x.f x.args x.s) := eval_sound hm hN hP hT hPT n _ _ ho
      refine ⟨h1, fun w0 A ν w VS hW hVS => Calls.mono (h2 w0 A ν w VS hW hVS) fun r w' hr => ?_⟩
      obtain ⟨o, hoo, ν', V, k1, k2, k3, k4⟩ := hr
      obtain ⟨p, hp, hc⟩ := List.any_eq_true.1 (List.all_eq_true.1 h o hoo)
      obtain ⟨⟨_, _, c3⟩, c4⟩ := covO_spec hc
      obtain ⟨ν'', m1, m2, m3⟩ := c3 P w0 w' A ν ν' k1 hW.top hW.ext (by rw [c4]; exact hW.ctx.gl) k2
      exact ⟨p, hp, ν'', V, m1, m2, m3.trans k3, k4⟩
    · cases h
  · exact hT x hx

end Go.Proofs.YtpifcidnpbkaoaaGreatDoor

/- The evaluator, 25: closed calls that are known by other known calls; a law under conditions on its data. No program in sight. -/
namespace Go.Proofs.YtpifcidnpbkaoaaGreatDoor
open Go Go.RowKit

def okPEntT (P : Program) (l : List (Nat × Nat × Nat)) (tab : List Ent) (ptab : List PEnt) (n : Nat) (e : PEnt) : Bool :=
  closedL e.args && closedV e.v && glOk e.gl && match eval P ⟨l, tab, ptab⟩ n (.call e.f e.args ⟨.e, 0, [], ⟨e.gl, []⟩⟩) with
  | some outs => outs.all fun o => eqV o.v e.v
  | none => false
theorem okPEntT_cons {P : Program} (hm : P.follows .mixedOrders = true) (hN : okNames P = true) {l : List (Nat × Nat × Nat)} {tab : List Ent} {ptab : List PEnt} (hP : PrimOk P ⟨l, tab, ptab⟩) (hT : TabOk P (AnyOk P) tab) (hPT : PTabOk P ptab) {n : Nat} {e : PEnt} (h : okPEntT P l tab ptab n e = true) : PTabOk P (e :: ptab) := fun x hx => by
  rcases List.mem_cons.1 hx with rfl | hx
  · unfold okPEntT at h
    simp only [Bool.and_eq_true] at h
    obtain ⟨⟨⟨h1, h2⟩, h3⟩, h4⟩ := h
    split at h4
    · rename_i outs ho
      refine ⟨h1, h2, (eval_sound hm hN hP hT hPT n _ _ ho).1, fun ν w VS hgl hVS => ?_⟩
      have hgl' : GlobOk ⟨fun _ => none, ν.x, ν.u⟩ x.gl w := fun g m hm' i v hv => by
        obtain ⟨V, k1, k2⟩ := hgl g m hm' i v hv
        refine ⟨V, ?_, k2⟩
        rcases glOk_spec h3 g m hm' v (List.mem_of_getElem? hv) with hc | ⟨j, rfl⟩
        · rw [closed_den _ ν v hc]; exact k1
        · exact k1
      refine (eval_calls hm hN hP hT hPT ho ν.x ν.u (by rw [closed_denL _ ν _ h1]; exact hVS) w ⟨hgl', fun t b hb => by cases hb⟩).mono fun r w' hr => ?_
      obtain ⟨hb, o, hoo, ν', V, _, k1, k2, _⟩ := hr
      refine ⟨hb, V, ?_, k2⟩
      rw [← eqV_eq (List.all_eq_true.1 h4 o hoo)]
      rw [closed_den ν ν' _ (by rw [eqV_eq (List.all_eq_true.1 h4 o hoo)]; exact h2)]
      exact k1
    · cases h4
  · exact hPT x hx

/-- .. and such conditions on data -/
def stQ (gl : List (Nat × List AV)) (pc : List (Tm × Bool)) : St := ⟨.e, 0, [], ⟨gl, pc⟩⟩
theorem eval_trueP {P : Program} (hm : P.follows .mixedOrders = true) (hN : okNames P = true) {prims : Pr} (hP : PrimOk P prims) (hT : TabOk P (AnyOk P) prims.tab) (hPT : PTabOk P prims.ptab) {n f : Nat} {args : List AV} {VS : List Value} {gl : List (Nat × List AV)} {pc : List (Tm × Bool)} (h : allTrue (eval P prims n (.call f args (stQ gl pc))) = true)
    (ξ : Nat → Option Dat) (hVS : denL ⟨fun _ => none, ξ, fun _ _ => none⟩ args = some VS) (w : World) (hgl : GlobOk ⟨fun _ => none, ξ, fun _ _ => none⟩ gl w) (hpc : ∀ t b, (t, b) ∈ pc → IsSo ⟨fun _ => none, ξ, fun _ _ => none⟩ t b) :
    Calls P f VS.toArray w fun e w' => e = .returned (.bool true) ∧ Below w.heap.size w w' := by
  unfold allTrue at h
  split at h
  · cases h
  · rename_i l hl
    refine (eval_calls hm hN hP hT hPT hl ξ _ hVS w ⟨hgl, hpc⟩).mono fun e w' he => ?_
    obtain ⟨hb, o, ho, ν', V, _, h1, h2, _⟩ := he
    have := List.all_eq_true.1 h o ho
    split at this
    · rename_i b hv
      subst this
      rw [hv] at h1
      simp only [den, Option.some.injEq] at h1
      subst h1
      exact ⟨h2, hb⟩
    · cases this

end Go.Proofs.YtpifcidnpbkaoaaGreatDoor

/- opening arguments: what came in as data stands for a model -/
namespace Go.Proofs.YtpifcidnpbkaoaaGreatDoor
open Go.ChangeShapes Go.WideShapes Go.ChangeAt Go.RowKit

def flatPairs (F : TypeId → Option (List TypeId)) : Nat → List (Nat × TypeId) → Option (List TypeId)
  | _, [] => some []
  | off, (o, t) :: r => if o = off then (F t).bind fun a => (flatPairs F (off + a.length) r).map (a ++ ·) else none

/-- the types of a type's cells, one by one -/
def flatOf (P : Program) : Nat → TypeId → Option (List TypeId)
  | 0, _ => none
  | n + 1, t => (match P.underlying t with
    | some (.struct fs) => flatPairs (flatOf P n) 0 (fs.toList.map fun (f : Field) => (f.offset, f.type))
    | some (.array m e) => flatPairs (flatOf P n) 0 ((List.range m).map fun i => (i * P.cellsOf e, e))
    | some _ => some [t]
    | none => none).bind fun ts => if ts.length = P.cellsOf t then some ts else none

theorem flatOf_len {P : Program} {n : Nat} {t : TypeId} {ts : List TypeId} (h : flatOf P n t = some ts) : ts.length = P.cellsOf t := by
  cases n with
  | zero => simp [flatOf] at h
  | succ n =>
    unfold flatOf at h
    rw [Option.bind_eq_some_iff] at h
    obtain ⟨a, _, h⟩ := h
    split at h
    · injection h with h
      subst h
      assumption
    · cases h

section
variable {H : Type} {enc : TypeId × Value → H} {P : Program} {w : World}

/-- one cell that reads as data of a type -/
def Leaf (enc : TypeId × Value → H) (P : Program) (w : World) (c : Value) (t : TypeId) : Prop := ∃ fuel x, DataW.trod enc P w 0 (fun _ => true) true fuel t [c] = some x

theorem trod_array' {fuel : Nat} {t : TypeId} {cs : List Value} {x : DataW H × List MemPlace} {m : Nat} {e : TypeId} (ht : P.underlying t = some (.array m e)) (h : DataW.trod enc P w 0 (fun _ => true) true fuel t cs = some x) :
    ∃ n, cs.length = P.cellsOf t ∧ ∀ i, i < m → ∃ y, DataW.trod enc P w 0 (fun _ => true) true n e ((cs.drop (i * P.cellsOf e)).take (P.cellsOf e)) = some y := by
  cases fuel with
  | zero => simp [DataW.trod] at h
  | succ n =>
    unfold DataW.trod at h
    rw [ht] at h
    split at h <;> simp_all
    obtain ⟨hl, xs, hp, hd⟩ := h
    refine ⟨n, fun i hi => ?_⟩
    have h1 := mapM_some_length hp
    have h2 := mapM_some_get hp i i (by simp [hi])
    simp at h1
    rw [List.getElem?_eq_getElem (by omega)] at h2
    exact ⟨xs[i].1, xs[i].2, h2⟩

theorem flatPairs_opens {F : TypeId → Option (List TypeId)} {cs : List Value} (hF : ∀ t a, F t = some a → a.length = P.cellsOf t ∧ ∀ fuel ds x, DataW.trod enc P w 0 (fun _ => true) true fuel t ds = some x → All2 (Leaf enc P w) ds a) :
    ∀ (r : List (Nat × TypeId)) (off : Nat) (ts : List TypeId), flatPairs F off r = some ts → (∀ p ∈ r, ∃ n y, DataW.trod enc P w 0 (fun _ => true) true n p.2 ((cs.drop p.1).take (P.cellsOf p.2)) = some y) →
      cs.length = off + ts.length → All2 (Leaf enc P w) (cs.drop off) ts
  | [], off, ts, h, _, hl => by
    simp [flatPairs] at h
    subst h
    rw [List.drop_of_length_le (by simp at hl; omega)]
    trivial
  | (o, t) :: r, off, ts, h, hr, hl => by
    unfold flatPairs at h
    split at h
    · rename_i ho
      subst ho
      rw [Option.bind_eq_some_iff] at h
      obtain ⟨a, ha, h⟩ := h
      rw [Option.map_eq_some_iff] at h
      obtain ⟨b, hb, rfl⟩ := h
      obtain ⟨h1, h2⟩ := hF t a ha
      obtain ⟨n, y, hy⟩ := hr (o, t) (by simp)
      have h3 := h2 _ _ _ hy
      rw [← h1] at h3
      have h4 := flatPairs_opens hF r (o + a.length) b hb (fun p hp => hr p (by simp [hp])) (by simp at hl; omega)
      have := All2.append h3 h4
      rw [← List.drop_drop, List.take_append_drop] at this
      exact this
    · cases h

theorem trod_one {fuel : Nat} {t : TypeId} {cs : List Value} {x : DataW H × List MemPlace} {d : TypeDesc} (ht : P.underlying t = some d) (h1 : ∀ fs, d ≠ .struct fs) (h2 : ∀ m e, d ≠ .array m e) (h : DataW.trod enc P w 0 (fun _ => true) true fuel t cs = some x) : ∃ c, cs = [c] := by
  cases fuel with
  | zero => simp [DataW.trod] at h
  | succ n =>
    unfold DataW.trod at h
    rw [ht] at h
    split at h <;> first | exact ⟨_, rfl⟩ | (rename_i e _; injection e with e; exact absurd e (h1 _)) | (rename_i e _; injection e with e; exact absurd e (h2 _ _)) | simp_all

theorem flat_opens : ∀ (n : Nat) (t : TypeId) (ts : List TypeId), flatOf P n t = some ts → ∀ fuel cs x, DataW.trod enc P w 0 (fun _ => true) true fuel t cs = some x → All2 (Leaf enc P w) cs ts
  | 0, _, _, h => by simp [flatOf] at h
  | n + 1, t, ts, h => by
    intro fuel cs x hx
    have hlen := flatOf_len h
    unfold flatOf at h
    rw [Option.bind_eq_some_iff] at h
    obtain ⟨a, h, h'⟩ := h
    split at h'
    · injection h' with h'
      subst h'
      have hF : ∀ t a, flatOf P n t = some a → a.length = P.cellsOf t ∧ ∀ fuel ds x, DataW.trod enc P w 0 (fun _ => true) true fuel t ds = some x → All2 (Leaf enc P w) ds a := fun t a ha => ⟨flatOf_len ha, flat_opens n t a ha⟩
      split at h
      · rename_i fs hu
        obtain ⟨xs, m, _, _, hl, hxs, hf⟩ := DataW.trod_struct hu hx
        have := flatPairs_opens (cs := cs) hF _ 0 a h (fun p hp => by
          obtain ⟨f, hm, rfl⟩ := List.mem_map.1 hp
          obtain ⟨i, hi⟩ := List.getElem?_of_mem hm
          have h1 := hf i f (by simpa using hi)
          have h2 : i < fs.size := by have := (List.getElem?_eq_some_iff.1 hi).1; simpa using this
          rw [List.getElem?_eq_getElem (by omega)] at h1
          exact ⟨m, _, h1⟩) (by omega)
        simpa using this
      · rename_i m e hu
        obtain ⟨k, hl, hf⟩ := trod_array' hu hx
        have := flatPairs_opens (cs := cs) hF _ 0 a h (fun p hp => by
          obtain ⟨i, hm, rfl⟩ := List.mem_map.1 hp
          obtain ⟨y, hy⟩ := hf i (by simpa using hm)
          exact ⟨k, y, hy⟩) (by omega)
        simpa using this
      · rename_i d h1 h2 hu
        injection h with h
        subst h
        obtain ⟨c, rfl⟩ := trod_one hu h1 h2 hx
        exact ⟨⟨fuel, x, hx⟩, trivial⟩
      · cases h
    · cases h'

theorem Leaf.int {c : Value} {t : TypeId} {k : IntKind} (h : Leaf enc P w c t) (ht : P.underlying t = some (.int k)) : ∃ n, c = .int k n ∧ (Lit.int k n).wf = true := by
  obtain ⟨fuel, x, h⟩ := h
  obtain ⟨n, e, _, hw⟩ := DataW.trod_int ht h
  exact ⟨n, by simpa using e, hw⟩

/-- how a type's data open -/
structure Opn {α : Type} (P : Program) (R : Rp α) (t : TypeId) (ok : α → Prop) : Prop where
  cells : P.cellsOf t = R.size
  opens : ∀ {H : Type} {enc : TypeId × Value → H} {w : World} {fuel : Nat} {cs : List Value} {x : DataW H × List MemPlace}, DataW.trod enc P w 0 (fun _ => true) true fuel t cs = some x → ∃ m, R.at_ w (fun _ => True) cs m ∧ ok m

theorem Opn.int {t : TypeId} {k : IntKind} (ht : P.underlying t = some (.int k)) (hc : P.cellsOf t = 1) : Opn P (Rp.int k) t (fun n => (Lit.int k n).wf = true) :=
  ⟨hc, fun h => by
    obtain ⟨n, rfl, _, hw⟩ := DataW.trod_int ht h
    exact ⟨n, rfl, hw⟩⟩

theorem gather {α β : Type} {Q : Nat → α → β → Prop} : ∀ (n : Nat), (∀ i, i < n → ∃ a b, Q i a b) → ∃ (as : List α) (bs : List β), as.length = n ∧ bs.length = n ∧ ∀ (i : Nat) a b, as[i]? = some a → bs[i]? = some b → Q i a b
  | 0, _ => ⟨[], [], rfl, rfl, by simp⟩
  | n + 1, h => by
    obtain ⟨as, bs, ha, hb, hq⟩ := gather n (fun i hi => h i (by omega))
    obtain ⟨a, b, hab⟩ := h n (by omega)
    refine ⟨as ++ [a], bs ++ [b], by simp [ha], by simp [hb], fun i x y hx hy => ?_⟩
    by_cases hi : i < n
    · rw [List.getElem?_append_left (by omega)] at hx hy
      exact hq i x y hx hy
    · have : i = n := by have := (List.getElem?_eq_some_iff.1 hx).1; simp [ha] at this; omega
      subst this
      rw [List.getElem?_append_right (by omega)] at hx hy
      simp [ha, hb] at hx hy
      subst hx hy
      exact hab

theorem All2.of_get {α β : Type} {R : α → β → Prop} : ∀ {as : List α} {bs : List β}, as.length = bs.length → (∀ (i : Nat) a b, as[i]? = some a → bs[i]? = some b → R a b) → All2 R as bs
  | [], [], _, _ => trivial
  | a :: as, b :: bs, hl, h => ⟨h 0 a b rfl rfl, All2.of_get (by simpa using hl) fun i x y hx hy => h (i + 1) x y (by simpa using hx) (by simpa using hy)⟩
  | [], _ :: _, hl, _ => by simp at hl
  | _ :: _, [], hl, _ => by simp at hl

theorem flatten_at {size : Nat} : ∀ {css : List (List Value)}, (∀ cs ∈ css, cs.length = size) → ∀ {j : Nat} {u : Value}, css.flatten[j]? = some u → ∃ i k cs, css[i]? = some cs ∧ cs[k]? = some u ∧ j = i * size + k
  | [], _, _, _, h => by simp at h
  | c :: css, hc, j, u, h => by
    rw [List.flatten_cons] at h
    have h0 := hc c (by simp)
    by_cases hj : j < c.length
    · rw [List.getElem?_append_left hj] at h
      exact ⟨0, j, c, rfl, h, by simp⟩
    · rw [List.getElem?_append_right (by omega)] at h
      obtain ⟨i, k, cs, h1, h2, h3⟩ := flatten_at (fun cs hm => hc cs (by simp [hm])) h
      exact ⟨i + 1, k, cs, by simpa using h1, h2, by rw [Nat.add_mul]; omega⟩

theorem Opn.slice {α : Type} {R : Rp α} {ok : α → Prop} {t e : TypeId} (ht : P.underlying t = some (.slice e)) (hc : P.cellsOf t = 1) (h : Opn P R e ok) : Opn P R.slice t (fun l => l.length ≤ maxLen ∧ ∀ x ∈ l, ok x) := by
  refine ⟨hc, fun {H enc w fuel cs x} hx => ?_⟩
  rcases DataW.trod_slice ht hx with ⟨rfl, _⟩ | ⟨a, len, cap, elems, rest, n, _, rfl, _, _, hl, hm, hlen, hel, _, _⟩
  · exact ⟨[], Rp.slice_nil, by simp [maxLen], by simp⟩
  · rw [h.cells] at hel
    have he : ∀ i, i < len → ∃ cs m, (∀ k u, cs[k]? = some u → w.cell? (a.add (i * R.size + k)) = some u) ∧ R.at_ w (fun _ => True) cs m ∧ ok m := fun i hi => by
      have h1 := hel i hi
      rw [List.getElem?_eq_getElem (by omega), Option.bind_eq_some_iff] at h1
      obtain ⟨cs, hcs, hy⟩ := h1
      obtain ⟨m, hm1, hm2⟩ := h.opens hy
      refine ⟨cs, m, fun k u hu => ?_, hm1, hm2⟩
      obtain ⟨_, c2, c3⟩ := World.cells?_some hcs
      have hk := (List.getElem?_eq_some_iff.1 hu).1
      have := c3 k (by omega)
      rw [add_of_add] at this
      rw [this, hu]
    obtain ⟨css, l, h1, h2, h3⟩ := gather len he
    have hr : R.rows w (fun _ => True) css l := All2.of_get (by omega) fun i c m hc hm => (h3 i c m hc hm).2.1
    refine ⟨l, ⟨some a, cap, css, by rw [h2], by omega, hr, ⟨by rw [flatten_len (Rp.rows_len hr), h1, h2], fun _ => ⟨a, rfl, trivial, fun j u hu => ?_⟩⟩⟩, by omega, fun x hx => ?_⟩
    · obtain ⟨i, k, cs, e1, e2, rfl⟩ := flatten_at (Rp.rows_len hr) hu
      have hi : i < l.length := by have := (List.getElem?_eq_some_iff.1 e1).1; omega
      exact (h3 i cs _ e1 (List.getElem?_eq_getElem hi)).1 k u e2
    · obtain ⟨i, hi⟩ := List.getElem?_of_mem hx
      have hi' : i < css.length := by have := (List.getElem?_eq_some_iff.1 hi).1; omega
      exact (h3 i _ x (List.getElem?_eq_getElem hi') hi).2.2
end

end Go.Proofs.YtpifcidnpbkaoaaGreatDoor

/- flat arguments: cells one by one -/
namespace Go.Proofs.YtpifcidnpbkaoaaGreatDoor
open Go.ChangeShapes Go.WideShapes Go.ChangeAt Go.RowKit
section
variable {H : Type} {enc : TypeId × Value → H} {P : Program} {w : World}

def leafOne (P : Program) (t : TypeId) : Bool :=
  match P.underlying t with
  | some (.int _) => true
  | some .string => true
  | some .bool => true
  | some (.slice _) => true
  | _ => false
theorem Leaf.one {c : Value} {t : TypeId} (h : Leaf enc P w c t) (hk : leafOne P t = true) : c.oneCell' = true := by
  unfold leafOne at hk
  obtain ⟨fuel, x, h⟩ := h
  split at hk
  · rename_i k ht
    obtain ⟨n, e, _⟩ := DataW.trod_int ht h
    obtain rfl : c = _ := by simpa using e
    rfl
  · rename_i ht
    obtain ⟨n, e, _⟩ := DataW.trod_string ht h
    obtain rfl : c = _ := by simpa using e
    rfl
  · rename_i ht
    obtain ⟨n, e, _⟩ := DataW.trod_bool ht h
    obtain rfl : c = _ := by simpa using e
    rfl
  · rename_i e ht
    rcases DataW.trod_slice ht h with ⟨e, _⟩ | ⟨a, len, cap, elems, rest, n, _, e, _⟩
    · obtain rfl : c = _ := by simpa using e
      rfl
    · obtain rfl : c = _ := by simpa using e
      rfl
  · cases hk
theorem flat_ones {cs : List Value} {ts : List TypeId} (h : All2 (Leaf enc P w) cs ts) (hk : ts.all (leafOne P) = true) : cs.length = ts.length ∧ ∀ c ∈ cs, c.oneCell' = true := by
  induction ts generalizing cs with
  | nil =>
    cases cs with
    | nil => exact ⟨rfl, fun c hc => by simp at hc⟩
    | cons _ _ => exact h.elim
  | cons t ts ih =>
    cases cs with
    | nil => exact h.elim
    | cons c cs =>
      simp only [List.all_cons, Bool.and_eq_true] at hk
      obtain ⟨h1, h2⟩ := ih h.2 hk.2
      exact ⟨by simp [h1], fun d hd => by
        rcases List.mem_cons.1 hd with rfl | hd
        · exact h.1.one hk.1
        · exact h2 d hd⟩
end
end Go.Proofs.YtpifcidnpbkaoaaGreatDoor
