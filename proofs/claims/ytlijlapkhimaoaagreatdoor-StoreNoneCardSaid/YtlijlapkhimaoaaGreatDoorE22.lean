/- The evaluator, 22: maps.clone; a law that answers true. No program in sight. -/
import Derived.Test.YtlijlapkhimaoaaGreatDoorE21
import Derived.Laws.Externs
import GoSem.Extern.Table
namespace Go.Proofs.YtlijlapkhimaoaaGreatDoor
open Go Go.RowKit

/-- maps.clone alone is taken whole -/
theorem primOk_clone {P : Program} {f : Nat} {fn : Func} (hf : P.funcs[f]? = some fn) (hname : (fn.name == "runtime.NumGoroutine") = false) (hb : fn.body.isNone = true) (hn : Extern.findNext fn = none) (he : Extern.find fn = some Extern.MapsClone.clone) {tab : List Ent} {ptab : List PEnt} : PrimOk P ⟨[(f, 1, 0)], tab, ptab⟩ := by
  intro g k t hp w0 A ν s w args v s' VS hpr hW hVS
  simp only [primOf, primIn] at hp
  split at hp
  · rename_i hb'
    have := Nat.eq_of_beq_eq_true hb'
    subst this
    simp only [Option.some.injEq, Prod.mk.injEq] at hp
    obtain ⟨rfl, rfl⟩ := hp
    simp only [primA] at hpr
    split at hpr
    · rename_i u i
      split at hpr
      · rename_i es c hi
        simp only [Option.some.injEq, Prod.mk.injEq] at hpr
        obtain ⟨rfl, rfl⟩ := hpr
        obtain ⟨V, R, h1, h2, rfl⟩ := denL_cons hVS
        rw [denL_nil h2]
        simp only [den] at h1
        split at h1
        · rename_i U hU
          injection h1 with h1
          subst h1
          obtain ⟨gm, hgm, hUm⟩ := map_den (ν := ν) (i := i) (V := U) (by simpa [den] using hU)
          subst hUm
          obtain ⟨arr, h3, h4⟩ := hW.rrel.map_ trivial hi hgm
          have hk := hW.top s.n (Nat.le_refl _)
          have hle := Nm.le_set hk w.heap.size
          refine .inl ⟨.iface u (.map (some w.heap.size)), w.alloc (.map arr c), ?_, ν.set s.n w.heap.size, hle, hW.alloc (n' := s.n + 1) hk (by omega) (by omega) ?_, ?_⟩
          · rw [run_callFunc_extern hf hname hb hn he]
            have hg : (getObj gm).run P w = .ok (.map arr c) w := by simp [getObj, Sem.run, h3]
            have hc : (Extern.MapsClone.clone #[.iface u (.map (some gm))]).run P w = .ok (.iface u (.map (some w.heap.size))) (w.alloc (.map arr c)) := by
              show (Sem.bind (getObj gm) _).run P w = _
              rw [run_bind, hg]
              rfl
            show ((Extern.MapsClone.clone #[.iface u (.map (some gm))]).run P w).andThen _ = _
            rw [hc]
            rfl
          · exact ⟨rfl, All2.imp (fun e m hm => ⟨den_mono hle _ _ hm.1, den_mono hle _ _ hm.2.1, hm.2.2⟩) h4⟩
          · simp [den, Nm.set_same]
        · cases h1
      · cases hpr
    · cases hpr
  · cases hp

/-- abi.NoEscape gives back what it is given -/
theorem primOk_noEscape {P : Program} {f : Nat} {fn : Func} (hf : P.funcs[f]? = some fn) (hname : (fn.name == "runtime.NumGoroutine") = false) (hb : fn.body.isNone = true) (hn : Extern.findNext fn = none) (he : Extern.find fn = some Extern.AbiNoEscape.same) {tab : List Ent} {ptab : List PEnt} : PrimOk P ⟨[(f, 2, 0)], tab, ptab⟩ := by
  intro g k t hp w0 A ν s w args v s' VS hpr hW hVS
  simp only [primOf, primIn] at hp
  split at hp
  · rename_i hb'
    have := Nat.eq_of_beq_eq_true hb'
    subst this
    simp only [Option.some.injEq, Prod.mk.injEq] at hp
    obtain ⟨rfl, rfl⟩ := hp
    simp only [primA] at hpr
    split at hpr
    · rename_i x
      simp only [Option.some.injEq, Prod.mk.injEq] at hpr
      obtain ⟨rfl, rfl⟩ := hpr
      obtain ⟨V, R, h1, h2, rfl⟩ := denL_cons hVS
      rw [denL_nil h2]
      refine .inl ⟨V, w, ?_, ν, Nm.le.refl _, hW, h1⟩
      rw [run_callFunc_extern hf hname hb hn he]
      rfl
    · cases hpr
  · cases hp
theorem findByte_spec (s : ByteArray) (c : Nat) (hc : c < 256) : ∀ (l pre : List UInt8), s.data.toList = pre ++ l → findByte c l pre.length = match (List.range' pre.length l.length).find? (fun i => s[i]! == UInt8.ofNat c) with | some i => (i : Int) | none => -1
  | [], _, _ => rfl
  | b :: l, pre, h => by
    have hs : pre.length < s.size := by
      have : s.data.toList.length = s.size := Array.length_toList
      rw [← this, h]
      simp
    have hb : s[pre.length]! = b := by
      rw [getElem!_pos s pre.length hs]
      show s.data[pre.length] = b
      have : s.data.toList[pre.length]? = some b := by
        rw [h, List.getElem?_append_right (Nat.le_refl _), Nat.sub_self]
        rfl
      rw [Array.getElem?_toList] at this
      exact (Array.getElem?_eq_some_iff.1 this).2
    have hcb : (b == UInt8.ofNat c) = Nat.beq b.toNat c := by
      cases hq : Nat.beq b.toNat c with
      | true =>
        have := Nat.eq_of_beq_eq_true hq
        rw [← this, UInt8.ofNat_toNat]
        exact beq_self_eq_true b
      | false =>
        have := Nat.ne_of_beq_eq_false hq
        rw [beq_eq_false_iff_ne]
        intro e
        refine this ?_
        rw [e, UInt8.toNat_ofNat']
        exact Nat.mod_eq_of_lt hc
    rw [List.length_cons, List.range'_succ, List.find?_cons, hb, hcb]
    unfold findByte
    cases hq : Nat.beq b.toNat c with
    | true => rfl
    | false =>
      have := findByte_spec s c hc l (pre ++ [b]) (by rw [h, List.append_assoc]; rfl)
      simpa using this
theorem primOk_indexByte {P : Program} {f : Nat} {fn : Func} (hf : P.funcs[f]? = some fn) (hname : (fn.name == "runtime.NumGoroutine") = false) (hb : fn.body.isNone = true) (hn : Extern.findNext fn = none) (he : Extern.find fn = some Extern.BytealgIndexByte.indexByte) {tab : List Ent} {ptab : List PEnt} : PrimOk P ⟨[(f, 5, 0)], tab, ptab⟩ := by
  intro g k t hp w0 A ν s w args v s' VS hpr hW hVS
  simp only [primOf, primIn] at hp
  split at hp
  · rename_i hb'
    have := Nat.eq_of_beq_eq_true hb'
    subst this
    simp only [Option.some.injEq, Prod.mk.injEq] at hp
    obtain ⟨rfl, rfl⟩ := hp
    simp only [primA] at hpr
    split at hpr
    · rename_i b c
      split at hpr
      · rename_i hc
        have hc := Nat.le_of_ble_eq_true hc
        simp only [Option.some.injEq, Prod.mk.injEq] at hpr
        obtain ⟨rfl, rfl⟩ := hpr
        obtain ⟨V, R, h1, h2, rfl⟩ := denL_cons hVS
        obtain ⟨U, R', h3, h4, rfl⟩ := denL_cons h2
        rw [denL_nil h4]
        simp only [den, Option.some.injEq] at h1 h3
        subst h1 h3
        refine .inl ⟨.int .i64 (findByte c b 0), w, ?_, ν, Nm.le.refl _, hW, rfl⟩
        rw [run_callFunc_extern hf hname hb hn he]
        show ((Extern.BytealgIndexByte.indexByte #[.string ⟨b.toArray⟩, .int .u8 (.ofNat c)]).run P w).andThen _ = _
        rw [run_indexByte_string]
        have hfi : firstIdx ⟨b.toArray⟩ (Int.ofNat c).toNat.toUInt8 = findByte c b 0 := by
          have h := findByte_spec ⟨b.toArray⟩ c (by omega) b [] (by simp)
          simp only [List.length_nil] at h
          rw [h]
          unfold firstIdx
          have hsz : (ByteArray.mk b.toArray).size = b.length := by simp [ByteArray.size]
          rw [hsz, List.range_eq_range']
          rfl
        rw [hfi]
        rfl
      · cases hpr
    · cases hpr
  · cases hp
theorem primOk_cons {P : Program} {f k t : Nat} {l : List (Nat × Nat × Nat)} {tab : List Ent} {ptab : List PEnt} (h : PrimOk P ⟨[(f, k, t)], tab, ptab⟩) (hl : PrimOk P ⟨l, tab, ptab⟩) : PrimOk P ⟨(f, k, t) :: l, tab, ptab⟩ := by
  intro g k' t' hp
  simp only [primOf, primIn] at hp
  split at hp
  · rename_i hb
    simp only [Option.some.injEq, Prod.mk.injEq] at hp
    obtain ⟨rfl, rfl⟩ := hp
    exact h g k t (by simp only [primOf, primIn, hb])
  · exact hl g k' t' hp
theorem primOk_nil {P : Program} {tab : List Ent} {ptab : List PEnt} : PrimOk P ⟨[], tab, ptab⟩ := fun g k t h => by cases h

/-! ### calls that are run once, and known from then on -/
def eqO (o p : Out) : Bool := (match o.e, p.e with | .norm, .norm => true | .ret, .ret => true | _, _ => false) && eqV o.v p.v && eqTr eqV o.T p.T && eqNs o.M p.M && eqSt o.s p.s
def eqOs : List Out → List Out → Bool
  | [], [] => true
  | o :: l, p :: m => match eqO o p with
    | true => eqOs l m
    | false => false
  | _, _ => false
theorem eqOs_eq : ∀ {a b : List Out}, eqOs a b = true → a = b
  | [], [], _ => rfl
  | [], _ :: _, h => by cases h
  | _ :: _, [], h => by cases h
  | o :: l, p :: m, h => by
    unfold eqOs at h
    split at h
    · rename_i ho
      rw [eqOs_eq h]
      congr 1
      obtain ⟨oe, ov, oT, oM, os⟩ := o
      obtain ⟨pe, pv, pT, pM, ps⟩ := p
      unfold eqO at ho
      simp only [Bool.and_eq_true] at ho
      obtain ⟨⟨⟨⟨h1, h2⟩, h3⟩, h4⟩, h5⟩ := ho
      rw [eqV_eq h2, eqTr_eq (fun _ _ => eqV_eq) h3, eqNs_eq h4, eqSt_eq h5]
      cases oe <;> cases pe <;> first | rfl | cases h1
    · cases h
def okEnt (P : Program) (l : List (Nat × Nat × Nat)) (tab : List Ent) (ptab : List PEnt) (n : Nat) (e : Ent) : Bool :=
  match eval P ⟨l, tab, ptab⟩ n (.call e.f e.args e.s) with
  | some o => eqOs o e.outs
  | none => false
theorem okEnt_cons {P : Program} (hm : P.follows .mixedOrders = true) (hN : okNames P = true) {l : List (Nat × Nat × Nat)} {tab : List Ent} {ptab : List PEnt} (hP : PrimOk P ⟨l, tab, ptab⟩) (hT : TabOk P (AnyOk P) tab) (hPT : PTabOk P ptab) {n : Nat} {e : Ent} (h : okEnt P l tab ptab n e = true) : TabOk P (AnyOk P) (e :: tab) := by
  refine tab_cons hm hN hP hT hPT (n := n) ?_
  unfold okEnt at h
  split at h
  · rename_i o ho
    rw [ho, eqOs_eq h]
  · cases h
def glOk : List (Nat × List AV) → Bool
  | [] => true
  | (_, l) :: r => (l.all fun v => closedV v || (match v with | .ext _ => true | _ => false)) && glOk r
theorem glOk_spec {gl : List (Nat × List AV)} (h : glOk gl = true) : ∀ g l, (g, l) ∈ gl → ∀ v ∈ l, closedV v = true ∨ ∃ i, v = .ext i := by
  induction gl with
  | nil => intro g l hm; cases hm
  | cons p r ih =>
    obtain ⟨k, m⟩ := p
    simp only [glOk, Bool.and_eq_true] at h
    intro g l hm v hv
    rcases List.mem_cons.1 hm with e | hm
    · simp only [Prod.mk.injEq] at e
      obtain ⟨rfl, rfl⟩ := e
      have := List.all_eq_true.1 h.1 v hv
      rw [Bool.or_eq_true] at this
      rcases this with h | h
      · exact .inl h
      · split at h
        · exact .inr ⟨_, rfl⟩
        · cases h
    · exact ih h.2 g l hm v hv
def okPEnt (P : Program) (l : List (Nat × Nat × Nat)) (ptab : List PEnt) (n : Nat) (e : PEnt) : Bool :=
  closedL e.args && closedV e.v && glOk e.gl && match eval P ⟨l, [], ptab⟩ n (.call e.f e.args ⟨.e, 0, [], ⟨e.gl, []⟩⟩) with
  | some outs => outs.all fun o => eqV o.v e.v
  | none => false
theorem okPEnt_cons {P : Program} (hm : P.follows .mixedOrders = true) (hN : okNames P = true) {l : List (Nat × Nat × Nat)} {ptab : List PEnt} (hP : PrimOk P ⟨l, [], ptab⟩) (hPT : PTabOk P ptab) {n : Nat} {e : PEnt} (h : okPEnt P l ptab n e = true) : PTabOk P (e :: ptab) := fun x hx => by
  rcases List.mem_cons.1 hx with rfl | hx
  · unfold okPEnt at h
    simp only [Bool.and_eq_true] at h
    obtain ⟨⟨⟨h1, h2⟩, h3⟩, h4⟩ := h
    split at h4
    · rename_i outs ho
      refine ⟨h1, h2, (eval_sound hm hN hP tab_nil hPT n _ _ ho).1, fun ν w VS hgl hVS => ?_⟩
      have hgl' : GlobOk ⟨fun _ => none, ν.x, ν.u⟩ x.gl w := fun g m hm' i v hv => by
        obtain ⟨V, k1, k2⟩ := hgl g m hm' i v hv
        refine ⟨V, ?_, k2⟩
        rcases glOk_spec h3 g m hm' v (List.mem_of_getElem? hv) with hc | ⟨j, rfl⟩
        · rw [closed_den _ ν v hc]; exact k1
        · exact k1
      refine (eval_calls hm hN hP tab_nil hPT ho ν.x ν.u (by rw [closed_denL _ ν _ h1]; exact hVS) w ⟨hgl', fun t b hb => by cases hb⟩).mono fun r w' hr => ?_
      obtain ⟨hb, o, hoo, ν', V, _, k1, k2, _⟩ := hr
      refine ⟨hb, V, ?_, k2⟩
      rw [← eqV_eq (List.all_eq_true.1 h4 o hoo)]
      rw [closed_den ν ν' _ (by rw [eqV_eq (List.all_eq_true.1 h4 o hoo)]; exact h2)]
      exact k1
    · cases h4
  · exact hPT x hx
theorem ptab_nil {P : Program} : PTabOk P [] := fun x hx => by cases hx

/-- every answer is true -/
def allTrue : Res → Bool
  | none => false
  | some l => l.all fun o => match o.v with
    | .bool b => b
    | _ => false
def st0 : St := ⟨.e, 0, [], ⟨[], []⟩⟩
/-- nothing but what the packages' variables hold is known -/
def stG (gl : List (Nat × List AV)) : St := ⟨.e, 0, [], ⟨gl, []⟩⟩
theorem eval_trueG {P : Program} (hm : P.follows .mixedOrders = true) (hN : okNames P = true) {prims : Pr} (hP : PrimOk P prims) (hT : TabOk P (AnyOk P) prims.tab) (hPT : PTabOk P prims.ptab) {n f : Nat} {args : List AV} {VS : List Value} {gl : List (Nat × List AV)} (h : allTrue (eval P prims n (.call f args (stG gl))) = true)
    (ξ : Nat → Option Dat) (hVS : denL ⟨fun _ => none, ξ, fun _ _ => none⟩ args = some VS) (w : World) (hgl : GlobOk ⟨fun _ => none, ξ, fun _ _ => none⟩ gl w) :
    Calls P f VS.toArray w fun e w' => e = .returned (.bool true) ∧ Below w.heap.size w w' := by
  unfold allTrue at h
  split at h
  · cases h
  · rename_i l hl
    refine (eval_calls hm hN hP hT hPT hl ξ _ hVS w ⟨hgl, fun t b hb => by cases hb⟩).mono fun e w' he => ?_
    obtain ⟨hb, o, ho, ν', V, _, h1, h2, _⟩ := he
    have := List.all_eq_true.1 h o ho
    split at this
    · rename_i b hv
      subst this
      rw [hv] at h1
      simp only [den, Option.some.injEq] at h1
      subst h1
      exact ⟨h2, hb⟩
    · cases this
theorem eval_true {P : Program} (hm : P.follows .mixedOrders = true) (hN : okNames P = true) {prims : Pr} (hP : PrimOk P prims) (hT : TabOk P (AnyOk P) prims.tab) (hPT : PTabOk P prims.ptab) {n f : Nat} {args : List AV} {VS : List Value} (h : allTrue (eval P prims n (.call f args st0)) = true) (ξ : Nat → Option Dat) (hVS : denL ⟨fun _ => none, ξ, fun _ _ => none⟩ args = some VS) (w : World) :
    Calls P f VS.toArray w fun e w' => e = .returned (.bool true) ∧ Below w.heap.size w w' :=
  eval_trueG hm hN hP hT hPT h ξ hVS w fun g l hg => (by cases hg)

end Go.Proofs.YtlijlapkhimaoaaGreatDoor
