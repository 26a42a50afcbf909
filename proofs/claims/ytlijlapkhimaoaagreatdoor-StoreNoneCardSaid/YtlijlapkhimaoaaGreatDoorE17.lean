/- The evaluator, 17: calls and rounds. No program in sight. -/
import Derived.Test.YtlijlapkhimaoaaGreatDoorE16b
namespace Go.Proofs.YtlijlapkhimaoaaGreatDoor
open Go Go.RowKit

/-- one result, out of the frame and the blocks -/
def resOne (tmps : Array Value) : ResultVar → Sem Value
  | .tmp t => pure (tmps.getD t undef)
  | .cell x t => do loadVar t (← asAddr (tmps.getD x undef))
def oneOrTuple : List Value → Value
  | [v] => v
  | vs => .tuple vs.toArray

section
variable {P : Program} {w0 w : World} {A : Anch} {ν : Nm} {s : St} {T : Tr AV} {N : Nat} {M : List Nat} {a : Act} {r ro : Option Nat}

theorem resA_rel (hW : WRel P w0 A ν s w) (hF : FRel ν T N a.tmps) {x : ResultVar} {v : AV} (h : resA P T s x = some v) : ∃ V, den ν v = some V ∧ (resOne a.tmps x).run P w = .ok V w := by
  cases x with
  | tmp t =>
    obtain ⟨V, h1, h2⟩ := hF.slots t v h
    exact ⟨V, h1, by simp [resOne, h2, pure, Sem.run]⟩
  | cell x t =>
    simp only [resA] at h
    split at h
    · rename_i i off hx
      obtain ⟨V, h1, h2⟩ := hF.slots x _ hx
      obtain ⟨g, hg, rfl⟩ := ptr_den h1
      obtain ⟨V, h3, h4⟩ := load_R hW.rrel trivial h hg
      refine ⟨V, h3, ?_⟩
      simp only [resOne, Array.getD_eq_getD_getElem?, h2, Option.getD_some]
      exact h4
    · cases h
theorem resL_rel (hW : WRel P w0 A ν s w) (hF : FRel ν T N a.tmps) : ∀ {rs : List ResultVar} {vs : List AV}, mapO (resA P T s) rs = some vs → ∃ VS, denL ν vs = some VS ∧ (rs.mapM (resOne a.tmps)).run P w = .ok VS w
  | [], vs, h => by
    simp only [mapO, Option.some.injEq] at h
    subst h
    exact ⟨[], rfl, rfl⟩
  | x :: rs, vs, h => by
    simp only [mapO] at h
    split at h
    · cases h
    · rename_i v hv
      split at h
      · cases h
      · rename_i m hm
        injection h with h
        subst h
        obtain ⟨V, h1, h2⟩ := resA_rel hW hF hv
        obtain ⟨VS, h3, h4⟩ := resL_rel hW hF hm
        refine ⟨V :: VS, denL_mk h1 h3, ?_⟩
        rw [List.mapM_cons]
        show (Sem.bind _ _).run P w = _
        rw [run_bind, h2]
        show (Sem.bind _ _).run P w = _
        rw [run_bind, h4]
        rfl
theorem one1_den {vs : List AV} {VS : List Value} (h : denL ν vs = some VS) : den ν (one1 vs) = some (oneOrTuple VS) := by
  match vs with
  | [] => rw [denL_nil h]; rfl
  | [v] =>
    obtain ⟨V, R, h1, h2, rfl⟩ := denL_cons h
    rw [denL_nil h2]
    exact h1
  | u :: v :: l =>
    obtain ⟨U, R, h1, h2, rfl⟩ := denL_cons h
    obtain ⟨V, R, h3, h4, rfl⟩ := denL_cons h2
    simp [one1, oneOrTuple, den, denL, h1, h3, h4]
theorem results_rel (hW : WRel P w0 A ν s w) (hF : FRel ν T N a.tmps) {fn : Func} {vs : List AV} (h : mapO (resA P T s) fn.results.toList = some vs) : ∃ V, den ν (one1 vs) = some V ∧ (results fn a.tmps).run P w = .ok V w := by
  obtain ⟨VS, h1, h2⟩ := resL_rel hW hF h
  refine ⟨oneOrTuple VS, one1_den h1, ?_⟩
  show (Sem.bind (Array.mapM (resOne a.tmps) fn.results) _).run P w = _
  rw [show fn.results = fn.results.toList.toArray by simp, List.mapM_toArray, run_bind]
  have hm : ∀ (s : Sem (List Value)), s.run P w = .ok VS w → (List.toArray <$> s).run P w = .ok VS.toArray w := fun s hs => by
    rw [← bind_pure_comp]
    show (Sem.bind s _).run P w = _
    rw [run_bind, hs]
    rfl
  rw [hm _ h2]
  show Result.ok _ w = _
  congr 1
  match VS with
  | [] => rfl
  | [v] => rfl
  | v :: u :: l => simp [oneOrTuple]

theorem argsA_rel : ∀ {args : List AV} {VS : List Value} {i : Nat} {T : Tr AV} {tmps : Array Value}, denL ν args = some VS → FRel ν T N tmps → (∀ j, (h : j < VS.length) → tmps[i + j]? = some VS[j]) → FRel ν (argsA args i T) N tmps
  | [], _, _, _, _, _, h, _ => h
  | v :: args, VS, i, T, tmps, hd, h, hj => by
    obtain ⟨V, R, h1, h2, rfl⟩ := denL_cons hd
    unfold argsA
    refine argsA_rel h2 ⟨h.size, fun k u hu => ?_⟩ fun j hlt => ?_
    · rw [Tr.get_put] at hu
      split at hu
      · rename_i e
        subst e
        injection hu with hu
        subst hu
        exact ⟨V, h1, hj 0 (by simp)⟩
      · exact h.slots k u hu
    · have := hj (j + 1) (by simp; omega)
      rw [show i + 1 + j = i + (j + 1) by omega]
      simpa using this

theorem bindPs_rel : ∀ {ps : List Nat} {args : List AV} {VS : List Value} {T T1 : Tr AV} {tmps : Array Value}, bindPs N ps args T = some T1 → denL ν args = some VS → FRel ν T N tmps → VS.length = ps.length ∧ FRel ν T1 N ((ps.zip VS).foldl (fun tmps (t, a) => tmps.setIfInBounds t a) tmps)
  | [], [], _, _, _, _, h, hd, hF => by
    simp only [bindPs, Option.some.injEq] at h
    subst h
    rw [denL_nil hd]
    exact ⟨rfl, hF⟩
  | p :: ps, v :: args, VS, T, T1, tmps, h, hd, hF => by
    obtain ⟨V, R, h1, h2, rfl⟩ := denL_cons hd
    simp only [bindPs] at h
    split at h
    · rename_i hb
      obtain ⟨h3, h4⟩ := bindPs_rel h h2 (hF.put (Nat.le_of_ble_eq_true hb) h1)
      exact ⟨by simp [h3], h4⟩
    · cases h
  | [], _ :: _, _, _, _, _, h, _, _ => by cases h
  | _ :: _, [], _, _, _, _, h, _, _ => by cases h

theorem leaves_rel {fn : Func} {tmps : Array Value} {R : Ending → World → Prop} : ∀ {M : List Nat} {ds : List Deferred} {s : St} {w : World}, MRel ν M ds → WRel P w0 A ν s w → (∀ i ∈ M, s.h.get i = some .defr) → distinct M = true →
    (∀ w', WRel P w0 A ν (killAll M s) w' → ∃ v, (results fn tmps).run P w' = .ok v w' ∧ R (.returned v) w') → LeavesInM (fz none) 0 P fn tmps R ds .returning w
  | [], ds, s, w, hM, hW, _, _, hR => by
    cases ds with
    | nil => exact hR w hW
    | cons _ _ => exact hM.elim
  | i :: M, ds, s, w, hM, hW, hal, hdi, hR => by
    cases ds with
    | nil => exact hM.elim
    | cons d ds =>
      obtain ⟨⟨g, hg, rfl⟩, hM⟩ := hM
      have hi := hal i (List.mem_cons_self ..)
      obtain ⟨obj, h1, h2⟩ := hW.at_ hi hg
      cases obj <;> simp only [ORel] at h2 <;> try exact h2.elim
      subst h2
      simp only [distinct, Bool.and_eq_true, Bool.not_eq_true'] at hdi
      refine ⟨by simp, .inl ⟨g, _, rfl, run_takeDeferred h1, leaves_rel hM (hW.killTurn hi hg (Upd.obj _ (hW.lt hi hg))) (fun j hj => ?_) hdi.2 hR⟩⟩
      simp only [killO]
      rw [Tr.get_put, if_neg]
      · exact hal j (List.mem_cons_of_mem _ hj)
      · rintro rfl
        have := List.any_eq_false.1 hdi.1 j hj
        simp [Nat.beq_refl] at this

theorem eqSt_eq {a b : St} (h : eqSt a b = true) : a = b := by
  unfold eqSt at h
  simp only [Bool.and_eq_true] at h
  obtain ⟨⟨⟨⟨h1, h2⟩, h3⟩, h4⟩, h5⟩ := h
  obtain ⟨ah, an, al, ⟨ag, ap⟩⟩ := a
  obtain ⟨bh, bn, bl, ⟨bg, bp⟩⟩ := b
  simp only at h1 h2 h3 h4 h5
  rw [Nat.eq_of_beq_eq_true h1, eqNs_eq h2, eqPc_eq h3, eqGl_eq h4, eqTr_eq (fun _ _ => eqObj_eq) h5]
theorem tabOf_spec {f : Nat} {args : List AV} {s : St} {outs : List Out} : ∀ {tab : List Ent}, tabOf f args s tab = some outs → ⟨f, args, s, outs⟩ ∈ tab
  | [], h => by cases h
  | e :: r, h => by
    unfold tabOf at h
    split at h
    · exact List.mem_cons_of_mem _ (tabOf_spec h)
    · rename_i hf
      split at h
      · rename_i hs
        simp only [Bool.and_eq_true] at hs
        injection h with h
        obtain ⟨ef, ea, es, eo⟩ := e
        simp only at hf hs h
        rw [← Nat.eq_of_beq_eq_true hf, ← eqVs_eq hs.1, ← eqSt_eq hs.2, ← h]
        exact List.mem_cons_self ..
      · exact List.mem_cons_of_mem _ (tabOf_spec h)
theorem ptabOf_spec {f : Nat} {args : List AV} {s : St} {v : AV} : ∀ {tab : List PEnt}, ptabOf f args s tab = some v → ⟨f, s.x.gl, args, v⟩ ∈ tab
  | [], h => by cases h
  | e :: r, h => by
    unfold ptabOf at h
    split at h
    · exact List.mem_cons_of_mem _ (ptabOf_spec h)
    · rename_i hf
      split at h
      · rename_i hs
        simp only [Bool.and_eq_true] at hs
        injection h with h
        obtain ⟨ef, eg, ea, ev⟩ := e
        simp only at hf hs h
        rw [← Nat.eq_of_beq_eq_true hf, ← eqVs_eq hs.1, ← eqGl_eq hs.2, ← h]
        exact List.mem_cons_self ..
      · exact List.mem_cons_of_mem _ (ptabOf_spec h)
/-- blocks that no name stands for come -/
theorem WRel.grow {P : Program} {w0 w w' : World} {A : Anch} {ν : Nm} {s : St} (h : WRel P w0 A ν s w) (hb : Below w.heap.size w w') : WRel P w0 A ν s w' :=
  ⟨h.keep.trans (Keep.of_below hb), h.top, fun i o hi => by
    obtain ⟨g, obj, h1, h2, h3, h4⟩ := h.objs i o hi
    exact ⟨g, obj, h1, h2, (hb.block g (h.lt hi h1)).trans h3, h4⟩, h.inj, h.ext, h.anc, fun i o hi hn => by
    obtain ⟨⟨o2, h1⟩, h2⟩ := h.same i o hi hn
    exact ⟨⟨o2, h1⟩, fun g hg => (hb.block g (h.lt h1 (h.ext _ _ hg))).trans (h2 g hg)⟩, fun g hg hf => (hb.block g (Nat.lt_of_lt_of_le hg h.big)).trans (h.far g hg hf), Nat.le_trans h.big hb.size, h.own, h.ctx⟩
theorem call_sound {AnyOk : Req → List Out → Prop} {prims : Pr} {n : Nat} {rec : Req → Res} (hN : okNames P = true) (hT : TabOk P AnyOk prims.tab) (hPT : PTabOk P prims.ptab) (ih : ∀ q outs, rec q = some outs → SoundReq P AnyOk n outs q) {f : Nat} {args : List AV} {outs : List Out}
    (h : evalBody P prims rec (.call f args s) = some outs) : SoundReq P AnyOk (n + 1) outs (.call f args s) := by
  unfold evalBody at h
  simp only at h
  unfold evCall at h
  split at h
  · rename_i v ht
    injection h with h
    subst h
    obtain ⟨_, _, h3, h4⟩ := hPT _ (ptabOf_spec ht)
    refine ⟨h3, fun w0 A ν w VS hW hVS => ?_⟩
    refine (h4 ν w VS hW.glob hVS).mono fun e w' he => ?_
    obtain ⟨hb, V, hV, rfl⟩ := he
    exact ⟨_, List.mem_singleton.2 rfl, ν, V, Nm.le.refl _, hW.grow hb, hV, rfl⟩
  split at h
  · rename_i os ht
    injection h with h
    subst h
    exact hT _ (tabOf_spec ht)
  split at h
  · rename_i os ht
    injection h with h
    subst h
    exact fitTab_sound hT ht
  split at h
  · cases h
  · rename_i fn hf
    split at h
    · cases h
    · rename_i c hb
      split at h
      · cases h
      · rename_i hlen
        have hlen := Nat.le_of_ble_eq_true hlen
        obtain ⟨outs0, h, hmg⟩ := mergeO_spec h
        refine ⟨fun VS w => okNames_spec hN hf hb VS w, fun w0 A ν w VS hW hVS => ?_⟩
        obtain ⟨l, h1, h2⟩ := bindO_spec h
        have hfinal : ∀ e w', CPost P w0 A ν outs0 e w' → CPost P w0 A ν outs e w' := fun e w' he => by
          obtain ⟨o, ho, ν', V, j1, j2, j3, j4⟩ := he
          obtain ⟨p, hp, _, e3⟩ := hmg o ho
          obtain ⟨ν'', q1, q2, q3⟩ := e3 P w0 w' A ν ν' j1 hW.top hW.ext hW.old hW.ctx.gl j2
          exact ⟨p, hp, ν'', V, q1, q2, q3.trans j3, j4⟩
        refine Calls.mono ?_ hfinal
        have hl := denL_len hVS
        have hF : FRel ν (argsA args 0 .e) fn.ntmps (VS.toArray ++ Array.replicate (fn.ntmps - VS.toArray.size) undef) :=
          argsA_rel hVS ⟨by simp; omega, fun i v hv => by simp [Tr.get] at hv⟩ fun j hj => by
            rw [Nat.zero_add, Array.getElem?_append_left (by simpa using hj)]
            simp [hj]
        refine callsR' (r := none) (n := 0) (callsIn_of_wp_marks hf hb trivial (wpIn_mono (ih _ _ h1 w0 A ν w none { tmps := _, defers := [] } hW hF trivial rfl).1 fun e a' w' hp => ?_))
        refine post_pass hp h2 fun o ν' os k1 k2 k3 k4 k5 k6 k7 => ?_
        have fin : ∀ os, (match (o.M.all fun i => match o.s.h.get i with | some .defr => true | _ => false) && distinct o.M with
          | false => none
          | true => match mapO (resA P o.T (killAll o.M o.s)) fn.results.toList with
            | some vs => some [(⟨.ret, one1 vs, .e, [], killAll o.M o.s⟩ : Out)]
            | none => none) = some os → (∀ y ∈ os, y ∈ outs0) → LeavesInM (fz none) 0 P fn a'.tmps (CPost P w0 A ν outs0) a'.defers .returning w' := fun os k6 k7 => by
          split at k6
          · cases k6
          · rename_i hm
            simp only [Bool.and_eq_true] at hm
            split at k6
            · rename_i vs hvs
              injection k6 with k6
              subst k6
              refine leaves_rel k5 k3 (fun i hi => ?_) hm.2 fun w2 hW2 => ?_
              · have := List.all_eq_true.1 hm.1 i hi
                split at this
                · assumption
                · cases this
              · obtain ⟨V, j1, j2⟩ := results_rel (a := a') hW2 k4 hvs
                exact ⟨V, j2, _, k7 _ (List.mem_singleton.2 rfl), ν', V, k1, hW2, j1, rfl⟩
            · cases k6
        cases e <;> cases ho : o.e <;> rw [ho] at k2 <;> simp only [SameEx] at k2 <;> simp only [ho] at k6
        · exact fin os k6 k7
        · cases k6
        · cases k6
        · exact fin os k6 k7

theorem WRel.set (h : WRel P w0 A ν s w) {i g : Nat} {o0 o : AObj} {obj : Obj} {w' : World} (hi : s.h.get i = some o0) (hg : ν i = some g) (hO : ORel P ν o obj) (hw : Upd w g obj w') : WRel P w0 A ν (setO s i o) w' :=
  h.write hi hg hO hw (fun _ hx => List.mem_cons_of_mem _ hx) fun _ _ => List.mem_cons_self ..

theorem round_sound {AnyOk : Req → List Out → Prop} {prims : Pr} {n : Nat} {rec : Req → Res} (ih : ∀ q outs, rec q = some outs → SoundReq P AnyOk n outs q) {l : Nat} {args : List AV} {outs : List Out}
    (h : evalBody P prims rec (.round l args s) = some outs) : SoundReq P AnyOk (n + 1) outs (.round l args s) := by
  intro w0 A ν w lg VS ro hW hlg hVS
  unfold evalBody at h
  simp only at h
  unfold evRound at h
  split at h
  · rename_i T N ps assign body d hl
    obtain ⟨obj, h1, h2⟩ := hW.at_ hl hlg
    cases obj <;> simp only [ORel] at h2 <;> try exact h2.elim
    rename_i rec1
    obtain ⟨a1, a2, a3, a4, rfl, rfl, a7⟩ := h2
    subst a4
    split at h
    · cases h
    · rename_i T1 hb
      obtain ⟨hlen, hF1⟩ := bindPs_rel hb hVS a3
      obtain ⟨l1, h3, h4⟩ := bindO_spec h
      refine ⟨_, _, _, _, run_yield h1 (by simpa using hlen), roundIn_of_wpIn trivial ?_⟩
      have hz : (rec1.params.zip VS.toArray).foldl (fun tmps (t, a) => tmps.setIfInBounds t a) rec1.tmps = (rec1.params.toList.zip VS).foldl (fun tmps (t, a) => tmps.setIfInBounds t a) rec1.tmps := by
        rw [← Array.foldl_toList, Array.toList_zip]
      rw [hz]
      refine wpIn_mono (ih _ _ h3 w0 A ν w (some lg) { tmps := _, defers := [] } hW hF1 trivial ⟨lg, hlg, rfl⟩).1 fun e a1 w1 hp => ?_
      refine post_pass hp h4 fun o ν1 os k1 k2 k3 k4 k5 k6 k7 => ?_
      cases e <;> cases ho : o.e <;> rw [ho] at k2 <;> simp only [SameEx] at k2 <;> simp only [ho] at k6
      · split at k6
        · rename_i T2 N2 ps2 as2 bd2 d2 hl2
          have hg1 := k1 _ _ hlg
          obtain ⟨obj2, b1, b2⟩ := k3.at_ hl2 hg1
          cases obj2 <;> simp only [ORel] at b2 <;> try exact b2.elim
          rename_i rec2
          obtain ⟨c1, c2, c3, c4, c5, c6, c7⟩ := b2
          refine ⟨_, run_beginRound b1 c1, ?_⟩
          obtain ⟨l2, d1, d2'⟩ := bindO_spec k6
          have hW2 := k3.set hl2 hg1 (ORel.loop_mk (rec := { rec2 with state := .busy }) (st := .busy) rfl c2 c3 c4 c5 c6 c7) (Upd.obj _ (k3.lt hl2 hg1))
          refine wpIn_mono (ih _ _ d1 w0 A ν1 _ (some lg) a1 hW2 k4 k5 ⟨lg, hg1, rfl⟩).1 fun e a2 w2 hp => ?_
          refine post_pass hp d2' fun o2 ν2 os2 f1 f2 f3 f4 f5 f6 f7 => ?_
          have hle : Nm.le ν ν2 := k1.trans f1
          have hg2 := f1 _ _ hg1
          split at f6
          · rename_i st3 pe3 T3 N3 ps3 as3 bd3 d3 hl3
            obtain ⟨obj3, g1, g2⟩ := f3.at_ hl3 hg2
            cases obj3 <;> simp only [ORel] at g2 <;> try exact g2.elim
            rename_i rec3
            obtain ⟨q1, q2, q3, q4, q5, q6, q7⟩ := g2
            have hlt := f3.lt hl3 hg2
            cases e <;> cases ho2 : o2.e <;> rw [ho2] at f2 <;> simp only [SameEx] at f2 <;> cases hM2 : o2.M <;> simp only [ho2, hM2] at f6
            · injection f6 with f6
              subst f6
              exact ⟨_, _, run_endRound none g1, _, k7 _ (f7 _ (List.mem_singleton.2 rfl)), ν2, _, hle, f3.set hl3 hg2 (ORel.loop_mk (rec := { rec3 with state := .ready, pending := none }) rfl rfl q3 q4 q5 q6 q7) (Upd.obj _ hlt), rfl, rfl⟩
            · cases f6
            · injection f6 with f6
              subst f6
              subst f2
              exact ⟨_, _, run_endRound (some (.exit _)) g1, _, k7 _ (f7 _ (List.mem_singleton.2 rfl)), ν2, _, hle, f3.set hl3 hg2 (ORel.loop_mk (rec := { rec3 with state := .done, pending := some (.exit _) }) rfl rfl q3 q4 q5 q6 q7) (Upd.obj _ hlt), rfl, rfl⟩
            · cases f6
            · cases f6
            · cases f6
            · injection f6 with f6
              subst f6
              exact ⟨_, _, run_endRound (some .ret) g1, _, k7 _ (f7 _ (List.mem_singleton.2 rfl)), ν2, _, hle, f3.set hl3 hg2 (ORel.loop_mk (rec := { rec3 with state := .done, pending := some .ret }) rfl rfl q3 q4 q5 q6 q7) (Upd.obj _ hlt), rfl, rfl⟩
            · cases f6
          · cases f6
        · cases k6
      · cases k6
      · cases k6
      · cases k6
  · cases h
end

end Go.Proofs.YtlijlapkhimaoaaGreatDoor
