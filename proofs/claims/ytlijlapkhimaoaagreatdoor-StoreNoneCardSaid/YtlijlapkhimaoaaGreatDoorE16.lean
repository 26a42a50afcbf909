/- The evaluator, 16: code. No program in sight. -/
import Derived.Test.YtlijlapkhimaoaaGreatDoorE15
namespace Go.Proofs.YtlijlapkhimaoaaGreatDoor
open Go Go.RowKit

theorem clearA_get {P : Program} {i : Nat} {v : AV} : ∀ (l : List Oper) (T : Tr AV), (clearA P l T).get i = some v → T.get i = some v
  | [], _, h => h
  | o :: l, T, h => by
    unfold clearA at h
    have h := clearA_get l _ h
    split at h
    · rw [Tr.get_put] at h
      split at h
      · cases h
      · exact h
    · exact h

section
variable {P : Program} {w0 w : World} {A : Anch} {ν : Nm} {s : St} {T : Tr AV} {N : Nat} {M : List Nat} {a : Act} {r ro : Option Nat}

theorem ops_sound {AnyOk : Req → List Out → Prop} {prims : Pr} {n : Nat} {rec : Req → Res} (ih : ∀ q outs, rec q = some outs → SoundReq P AnyOk n outs q) {ops : Array Oper} {l : List Oper} {outs : List Out}
    (h : evalBody P prims rec (.ops r ops l T N M s) = some outs) : SoundReq P AnyOk (n + 1) outs (.ops r ops l T N M s) := by
  intro w0 A ν w ro a hW hF hM hR
  unfold evalBody at h
  simp only at h
  unfold evOps at h
  split at h
  · exact post_norm hW hF hM h
  · rename_i o rest
    split at h
    · cases h
    · rename_i hw
      split at hw
      · rename_i hd
        refine wpListIn_step fun K hK => ?_
        rw [if_neg (by rw [wanted_rel hF hw]; decide)]
        exact ⟨fun _ _ => trivial, hK _ _ (ih _ _ h w0 A ν w ro _ hW (hF.putD hd den_undA) (by cases o.dst <;> exact hM) hR)⟩
      · cases hw
    · rename_i hw
      split at hw
      · rename_i hd
        refine wpListIn_step fun K hK => ?_
        rw [if_pos (wanted_rel hF hw)]
        obtain ⟨l1, h1, h2⟩ := bindO_spec h
        refine ih _ _ h1 w0 A ν w ro a N hW hF hR K _ fun out ho ν' V w' hν hW' hV => ?_
        obtain ⟨os, h3, h4⟩ := h2 out ho
        refine hK _ _ (wpListIn_mono (fun e a w => Post.mono hν h4) _ _ _ (ih _ _ h3 w0 A ν' w' ro _ hW' ((hF.mono hν).putD hd hV) ?_ (hR.mono hν)))
        have := hM.mono hν
        cases o.dst <;> exact this
      · cases hw

theorem post_pass {outs l : List Out} {e : Exit} (h : Post P w0 A ν N l e a w) {f : Out → Res} (hl : ∀ o ∈ l, ∃ os, f o = some os ∧ ∀ y ∈ os, y ∈ outs) {Q : Prop}
    (hn : ∀ o ν' os, Nm.le ν ν' → SameEx o.e e → WRel P w0 A ν' o.s w → FRel ν' o.T N a.tmps → MRel ν' o.M a.defers → f o = some os → (∀ y ∈ os, y ∈ outs) → Q) : Q := by
  obtain ⟨o, ho, ν', h1, h2, h3, h4, h5⟩ := h
  obtain ⟨os, h6, h7⟩ := hl o ho
  exact hn o ν' os h1 h2 h3 h4 h5 h6 h7

theorem post_self {outs : List Out} {o : Out} {ν' : Nm} {e : Exit} (hν : Nm.le ν ν') (he : SameEx o.e e) (hW : WRel P w0 A ν' o.s w) (hF : FRel ν' o.T N a.tmps) (hM : MRel ν' o.M a.defers) {os : List Out} (h : some [o] = some os) (ho : ∀ y ∈ os, y ∈ outs) : Post P w0 A ν N outs e a w := by
  injection h with h
  subst h
  exact ⟨o, ho o (List.mem_singleton.2 rfl), ν', hν, he, hW, hF, hM⟩

/-- a range over a function begins -/
theorem enter_rel (hW : WRel P w0 A ν s w) (hM : MRel ν M a.defers) {s1 : St} {M1 : List Nat} {d : Nat}
    (hd : (match r with
      | none => some (s.n, s.n :: M, newO s .defr)
      | some l0 => match s.h.get l0 with
        | some (.loop _ _ _ _ _ _ _ d) => some (d, M, s)
        | _ => none) = some (d, M1, s1)) (hR : RR ν r ro) (ps : Array Tmp) (assign body : Code) :
    ∃ ν1 w1 gd mark, Nm.le ν ν1 ∧ WRel P w0 A ν1 s1 w1 ∧ ν1 d = some gd ∧ MRel ν1 M1 (mark ++ a.defers) ∧ ∀ fid, (Instr.enterLoop fid a.tmps ps assign body ro).run P w =
      .ok (w1.heap.size, mark) (w1.alloc (.loop { state := .ready, pending := none, fn := fid, tmps := a.tmps, params := ps, assign, body, defers := gd })) := by
  split at hd
  · injection hd with hd
    injection hd with e1 hd
    injection hd with e2 e3
    subst e1 e2 e3
    cases hR
    have hk := hW.top s.n (Nat.le_refl _)
    have hle := Nm.le_set hk w.heap.size
    have hW1 : WRel P w0 A (ν.set s.n w.heap.size) (newO s .defr) (w.alloc (.deferred (some []))) := hW.alloc (o := .defr) (n' := s.n + 1) hk (by omega) (by omega) (show ORel P _ .defr (.deferred (some [])) from rfl)
    have hM1 : MRel (ν.set s.n w.heap.size) (s.n :: M) ([{ target := .collected w.heap.size, args := #[] }] ++ a.defers) := ⟨⟨w.heap.size, Nm.set_same _ _ _, rfl⟩, hM.mono hle⟩
    refine ⟨_, _, w.heap.size, _, hle, hW1, Nm.set_same _ _ _, hM1, fun fid => ?_⟩
    rw [run_enterLoop_outer, World.size_alloc]
  · rename_i l0
    split at hd
    · rename_i q1 q2 q3 q4 q5 q6 q7 d' hl0
      injection hd with hd
      injection hd with e1 hd
      injection hd with e2 e3
      subst e1 e2 e3
      obtain ⟨g0, hg0, rfl⟩ := hR
      obtain ⟨obj, h4, h5⟩ := hW.at_ hl0 hg0
      cases obj <;> simp only [ORel] at h5 <;> try exact h5.elim
      rename_i r0
      exact ⟨ν, w, r0.defers, [], Nm.le.refl _, hW, h5.2.2.2.2.2.2, hM, fun fid => run_enterLoop_inner h4 fid _ _ _ _⟩
    · cases hd

theorem ORel.loop_mk {st : LoopState} {pe : Option Code} {assign body : Code} {ps : List Nat} {d : Nat} {rec : Loop} (h1 : rec.state = st) (h2 : rec.pending = pe) (h3 : FRel ν T N rec.tmps) (h4 : rec.params.toList = ps) (h5 : rec.assign = assign) (h6 : rec.body = body) (h7 : ν d = some rec.defers) :
    ORel P ν (.loop st pe T N ps assign body d) (.loop rec) := by
  simp only [ORel]
  exact ⟨h1, h2, h3, h4, h5, h6, h7⟩

theorem rangeFunc_sound {AnyOk : Req → List Out → Prop} {prims : Pr} {n : Nat} {rec : Req → Res} (ih : ∀ q outs, rec q = some outs → SoundReq P AnyOk n outs q) (hW : WRel P w0 A ν s w) (hF : FRel ν T N a.tmps) (hM : MRel ν M a.defers) (hR : RR ν r ro)
    {f : Operand} {ps : Array Tmp} {assign body : Code} {outs : List Out} (h : evalBody P prims rec (.code r (.rangeFunc f ps assign body) T N M s) = some outs) : (Code.rangeFunc f ps assign body).wpIn (fz ro) 0 P (Post P w0 A ν N outs) a w := by
  unfold evalBody at h
  simp only at h
  unfold evCode at h
  simp only at h
  unfold evRange at h
  split at h
  · rename_i g first cap hf
    obtain ⟨fn, FS, CS, h1, h2, h3, hev⟩ := func_den (hF.evA hf)
    simp only [fnOf, Option.some.injEq] at h1
    subst h1
    split at h
    · cases h
    · rename_i d M1 s1 hd
      obtain ⟨ν1, w1, gd, mark, hν, hW1, hgd, hM1, hrun⟩ := enter_rel hW hM hd hR ps assign body
      have hk := hW1.top s1.n (Nat.le_refl _)
      have hν2 := Nm.le_set hk w1.heap.size
      obtain ⟨l, k1, k2⟩ := bindO_spec h
      obtain ⟨hen, hcall⟩ := ih _ _ k1
      refine wpIn_rangeFunc fun fid _ => ?_
      obtain ⟨W2, eW2⟩ : ∃ W2, w1.alloc (.loop { state := .ready, pending := none, fn := fid, tmps := a.tmps, params := ps, assign, body, defers := gd }) = W2 := ⟨_, rfl⟩
      have hrun := hrun fid
      rw [eW2] at hrun
      have hW2 : WRel P w0 A (ν1.set s1.n w1.heap.size) (newO s1 (.loop .ready none T N ps.toList assign body d)) W2 := eW2 ▸
        hW1.alloc (n' := s1.n + 1) hk (by omega) (by omega) (ORel.loop_mk rfl rfl (hF.mono (hν.trans hν2)) rfl rfl rfl (hν2 _ _ hgd))
      have hyld : den (ν1.set s1.n w1.heap.size) (.func (.yield s1.n) [] []) = some (.func (.yield w1.heap.size) #[] #[]) := by
        simp [den, fnOf, denL, Nm.set_same]
      have hargs := denL_append (denL_append (denL_mono (hν.trans hν2) _ _ h2) (denL_mk hyld (show denL _ [] = some [] from rfl))) (denL_mono (hν.trans hν2) _ _ h3)
      have hC := hcall w0 A _ _ _ hW2 hargs
      refine ⟨w1.heap.size, mark, W2, { target := .fn (.func g) CS.toArray, args := FS.toArray ++ #[.func (.yield w1.heap.size) #[] #[]] }, W2, g, (FS ++ [Value.func (Fn.yield w1.heap.size) #[] #[]] ++ CS).toArray, W2, hrun, ?_, fun _ _ => trivial, ?_, fun h => (by cases h), ?_⟩
      · simp only [resolve, hev, bind, Deferred.ofValue, pure]
        rw [show Array.map a.eval #[Operand.const (Value.func (Fn.yield w1.heap.size) #[] #[])] = #[Value.func (Fn.yield w1.heap.size) #[] #[]] by simp [Act.eval]]
        rfl
      · show (callFunc g _).run P _ = _
        rw [show (FS.toArray ++ #[Value.func (Fn.yield w1.heap.size) #[] #[]] ++ CS.toArray) = (FS ++ [Value.func (Fn.yield w1.heap.size) #[] #[]] ++ CS).toArray by simp]
        exact hen _ _
      · refine callsR (hC.mono ?_)
        intro e w3 hp
        obtain ⟨o, ho, ν3, V, m1, m2, m3, rfl⟩ := hp
        obtain ⟨os, m4, m5⟩ := k2 o ho
        split at m4
        · rename_i st pend q1 q2 q3 q4 q5 q6 hl
          have hg : ν3 s1.n = some w1.heap.size := m1 _ _ (Nm.set_same _ _ _)
          obtain ⟨obj, n1, n2⟩ := m2.at_ hl hg
          cases obj <;> simp only [ORel] at n2 <;> try exact n2.elim
          rename_i rec3
          have hle : Nm.le ν ν3 := (hν.trans hν2).trans m1
          have hlt := m2.lt hl hg
          have hne : rec3.state ≠ .busy := fun e => by
            rw [n2.1] at e
            rw [e] at m4
            cases m4
          have hend := run_endLoop (P := P) n1 hne
          have hW4 := m2.killTurn hl hg (Upd.obj (.loop { rec3 with state := .exhausted }) hlt)
          have hM4 : MRel ν3 M1 (mark ++ a.defers) := hM1.mono (hν2.trans m1)
          refine ⟨_, _, hend, ?_⟩
          clear hend
          generalize w3.putObj w1.heap.size _ = W4 at hW4 ⊢
          rw [n2.2.1]
          split at m4
          · cases m4
          · split at m4
            · exact Post.mono hle m5 (post_norm (a := { a with defers := mark ++ a.defers }) hW4 (hF.mono hle) hM4 m4)
            · exact wpIn_mono (ih _ _ m4 w0 A ν3 _ ro { a with defers := mark ++ a.defers } hW4 (hF.mono hle) hM4 (hR.mono hle)).1 fun _ _ _ => Post.mono hle m5
        · cases m4
  · cases h

theorem stepR_scope {b : Frame} {k : List Item} {cs : List Frame} {c : Code} : step P (lone (b.atR a (.code (.scope c) :: k)) cs w) = .next (lone (b.atR a (.code c :: .inScope c :: k)) cs w) :=
  step_lone_go (by simp [stepG, stepG.exec, Frame.atR])
theorem stepR_inScope {b : Frame} {k : List Item} {cs : List Frame} {c : Code} : step P (lone (b.atR a (.inScope c :: k)) cs w) = .next (lone (b.atR a k) cs w) :=
  step_lone_go (by simp [stepG, stepG.exec, Frame.atR])
theorem scope_in {F : Fence} {n : Nat} {c : Code} {Q : Exit → Act → World → Prop} (h : Scoped F n P c c Q a w) : (Code.scope c).wpIn F n P Q a w := by
  intro b k cs hro hb hr
  obtain ⟨e, a₁, w₁, hq, harr⟩ := h b k cs hro hb hr
  exact ⟨e, a₁, w₁, hq, .of_steps (.one (fenced_calm hb hr rfl) stepR_scope) harr⟩
/-- what is asked behind code within the scope c -/
def inScopeQ (F : Fence) (n : Nat) (P : Program) (c : Code) (Q : Exit → Act → World → Prop) : Exit → Act → World → Prop
  | .goto l, a, w => match findLabel c l with
    | some y => Scoped F n P c y Q a w
    | none => Q (.goto l) a w
  | e, a, w => Q e a w
theorem scoped_of {F : Fence} {n : Nat} {c x : Code} {Q : Exit → Act → World → Prop} (h : x.wpIn F n P (inScopeQ F n P c Q) a w) : Scoped F n P c x Q a w := by
  intro b k cs hro hb hr
  obtain ⟨e, a₁, w₁, hq, harr⟩ := h b (.inScope c :: k) cs hro hb hr
  cases e with
  | normal => exact ⟨.normal, a₁, w₁, hq, StepsIn.trans harr (.one (fenced_calm hb hr rfl) stepR_inScope)⟩
  | exit id =>
    have hx : exitTo id (.inScope c :: k) = exitTo id k := by simp [exitTo]
    exact ⟨.exit id, a₁, w₁, hq, fun k' hk => harr.1 k' (by rw [hx]; exact hk), fun hr' hk => harr.2 hr' (by rw [hx]; exact hk)⟩
  | goto l =>
    simp only [inScopeQ] at hq
    cases hf : findLabel c l with
    | some y =>
      rw [hf] at hq
      have hg : gotoIn l (.inScope c :: k) = some (.code y :: .inScope c :: k) := by simp [gotoIn, hf]
      obtain ⟨e₂, a₂, w₂, hq₂, harr₂⟩ := hq b k cs hro hb hr
      exact ⟨e₂, a₂, w₂, hq₂, .of_steps (harr.1 _ hg) harr₂⟩
    | none =>
      rw [hf] at hq
      have hx : gotoIn l (.inScope c :: k) = gotoIn l k := by simp [gotoIn, hf]
      exact ⟨.goto l, a₁, w₁, hq, fun k' hk => harr.1 k' (by rw [hx]; exact hk), fun hr' hk => harr.2 hr' (by rw [hx]; exact hk)⟩
  | ret => exact ⟨_, a₁, w₁, hq, harr⟩
  | panic ch => exact ⟨_, a₁, w₁, hq, harr⟩
  | outgrown => exact ⟨_, a₁, w₁, hq, harr⟩
theorem Scoped.mono {F : Fence} {n : Nat} {c x : Code} {Q Q' : Exit → Act → World → Prop} (h : Scoped F n P c x Q a w) (hq : ∀ e a w, Q e a w → Q' e a w) : Scoped F n P c x Q' a w :=
  fun b k cs hro hb hr => let ⟨e, a', w', q, r⟩ := h b k cs hro hb hr; ⟨e, a', w', hq _ _ _ q, r⟩

theorem scoped_sound {AnyOk : Req → List Out → Prop} {prims : Pr} {n : Nat} {rec : Req → Res} (ih : ∀ q outs, rec q = some outs → SoundReq P AnyOk n outs q) {c x : Code} {outs : List Out}
    (h : evalBody P prims rec (.scop r c x T N M s) = some outs) : SoundReq P AnyOk (n + 1) outs (.scop r c x T N M s) := by
  intro w0 A ν w ro a hW hF hM hR
  unfold evalBody at h
  simp only at h
  unfold evScop at h
  refine scoped_of ?_
  obtain ⟨l, h1, h2⟩ := bindO_spec h
  refine wpIn_mono (ih _ _ h1 w0 A ν w ro a hW hF hM hR).1 fun e a' w' hp => ?_
  refine post_pass hp h2 fun o ν' os k1 k2 k3 k4 k5 k6 k7 => ?_
  cases e <;> cases ho : o.e <;> rw [ho] at k2 <;> simp only [SameEx] at k2 <;> simp only [ho] at k6
  · exact post_self k1 (by rw [ho]; trivial) k3 k4 k5 k6 k7
  · exact post_self k1 (by rw [ho]; exact k2) k3 k4 k5 k6 k7
  · subst k2
    simp only [inScopeQ]
    split at k6
    · rename_i y hy
      rw [hy]
      exact (ih _ _ k6 w0 A ν' w' ro a' k3 k4 k5 (hR.mono k1)).mono fun _ _ _ => Post.mono k1 k7
    · rename_i hy
      rw [hy]
      exact post_self k1 (by rw [ho]; rfl) k3 k4 k5 k6 k7
  · exact post_self k1 (by rw [ho]; trivial) k3 k4 k5 k6 k7

theorem code_sound {AnyOk : Req → List Out → Prop} {prims : Pr} {n : Nat} {rec : Req → Res} (ih : ∀ q outs, rec q = some outs → SoundReq P AnyOk n outs q) {c : Code} {outs : List Out}
    (h : evalBody P prims rec (.code r c T N M s) = some outs) : SoundReq P AnyOk (n + 1) outs (.code r c T N M s) := by
  intro w0 A ν w ro a hW hF hM hR
  unfold evalBody at h
  simp only at h
  unfold evCode at h
  split at h
  · exact ⟨wpIn_skip (post_norm hW hF hM h), fun _ e => (by cases e)⟩
  · exact ⟨wpIn_label (post_norm hW hF hM h), fun _ e => (by cases e)⟩
  · exact ⟨wpIn_ret (post_self (o := ⟨.ret, undA, T, M, s⟩) (Nm.le.refl _) trivial hW hF hM h fun _ h => h), fun _ e => (by cases e)⟩
  · rename_i id
    exact ⟨wpIn_exit (post_self (o := ⟨.exit id, undA, T, M, s⟩) (Nm.le.refl _) rfl hW hF hM h fun _ h => h), fun _ e => (by cases e)⟩
  · rename_i l
    exact ⟨wpIn_goto (post_self (o := ⟨.goto l, undA, T, M, s⟩) (Nm.le.refl _) rfl hW hF hM h fun _ h => h), fun _ e => (by cases e)⟩
  · exact ⟨scope_in (ih _ _ h w0 A ν w ro a hW hF hM hR), fun _ e => (by cases e)⟩
  · exact ⟨wpIn_region_list (ih _ _ h w0 A ν w ro a hW hF hM hR), fun _ e => (by cases e)⟩
  · rename_i id ops
    exact ⟨ih _ _ h w0 A ν w ro a id hW ⟨hF.size, fun i v hv => hF.slots i v (clearA_get _ _ hv)⟩ hM hR, fun _ e => (by cases e)⟩
  · rename_i x y
    refine ⟨wpIn_seq ?_, fun _ e => (by cases e)⟩
    obtain ⟨l, h1, h2⟩ := bindO_spec h
    refine wpIn_mono (ih _ _ h1 w0 A ν w ro a hW hF hM hR).1 fun e a' w' hp => ?_
    refine post_pass hp h2 fun o ν' os k1 k2 k3 k4 k5 k6 k7 => ?_
    cases e <;> cases ho : o.e <;> rw [ho] at k2 <;> simp only [SameEx] at k2 <;> simp only [ho] at k6
    · exact wpIn_mono (ih _ _ k6 w0 A ν' w' ro a' k3 k4 k5 (hR.mono k1)).1 fun _ _ _ => Post.mono k1 k7
    · exact post_self k1 (by rw [ho]; exact k2) k3 k4 k5 k6 k7
    · exact post_self k1 (by rw [ho]; exact k2) k3 k4 k5 k6 k7
    · exact post_self k1 (by rw [ho]; trivial) k3 k4 k5 k6 k7
  · rename_i c x y
    refine ⟨?_, fun _ e => (by cases e)⟩
    split at h
    · rename_i hc
      have := hF.evA hc
      simp only [den, Option.some.injEq] at this
      exact wpIn_cond_true this.symm (ih _ _ h w0 A ν w ro a hW hF hM hR).1
    · rename_i hc
      have := hF.evA hc
      simp only [den, Option.some.injEq] at this
      exact wpIn_cond_false this.symm (ih _ _ h w0 A ν w ro a hW hF hM hR).1
    · cases h
  · rename_i id c
    refine ⟨wpIn_block ?_, fun _ e => (by cases e)⟩
    obtain ⟨l, h1, h2⟩ := bindO_spec h
    refine wpIn_mono (ih _ _ h1 w0 A ν w ro a hW hF hM hR).1 fun e a' w' hp => ?_
    refine post_pass hp h2 fun o ν' os k1 k2 k3 k4 k5 k6 k7 => ?_
    cases e <;> cases ho : o.e <;> rw [ho] at k2 <;> simp only [SameEx] at k2 <;> simp only [ho] at k6
    · exact post_self k1 (by rw [ho]; trivial) k3 k4 k5 k6 k7
    · rename_i j i
      subst k2
      simp only [Exit.inBlock]
      split at k6
      · rename_i hb
        rw [if_pos (Nat.eq_of_beq_eq_true hb)]
        exact Post.mono k1 k7 (post_norm k3 k4 k5 k6)
      · rename_i hb
        rw [if_neg (fun e => by rw [e] at hb; simp [Nat.beq_refl] at hb)]
        exact post_self k1 (by rw [ho]; rfl) k3 k4 k5 k6 k7
    · exact post_self k1 (by rw [ho]; exact k2) k3 k4 k5 k6 k7
    · exact post_self k1 (by rw [ho]; trivial) k3 k4 k5 k6 k7
  · rename_i c
    have key : Code.roundsIn (fz ro) 0 P c (Post P w0 A ν N outs) (n + 1) a w := by
      show c.wpIn (fz ro) 0 P (Exit.then (Code.roundsIn (fz ro) 0 P c (Post P w0 A ν N outs) n) (Post P w0 A ν N outs)) a w
      obtain ⟨l, h1, h2⟩ := bindO_spec h
      refine wpIn_mono (ih _ _ h1 w0 A ν w ro a hW hF hM hR).1 fun e a' w' hp => ?_
      refine post_pass hp h2 fun o ν' os k1 k2 k3 k4 k5 k6 k7 => ?_
      cases e <;> cases ho : o.e <;> rw [ho] at k2 <;> simp only [SameEx] at k2 <;> simp only [ho] at k6
      · exact roundsIn_mono (fun _ _ _ => Post.mono k1 k7) _ _ _ ((ih _ _ k6 w0 A ν' w' ro a' k3 k4 k5 (hR.mono k1)).2 c rfl)
      · exact post_self k1 (by rw [ho]; exact k2) k3 k4 k5 k6 k7
      · exact post_self k1 (by rw [ho]; exact k2) k3 k4 k5 k6 k7
      · exact post_self k1 (by rw [ho]; trivial) k3 k4 k5 k6 k7
    exact ⟨wpIn_loop_rounds (n + 1) key, fun b e => by cases e; exact key⟩
  · rename_i f ps assign body
    exact ⟨rangeFunc_sound (prims := prims) ih hW hF hM hR h, fun _ e => (by cases e)⟩
  · cases h
end

end Go.Proofs.YtlijlapkhimaoaaGreatDoor
