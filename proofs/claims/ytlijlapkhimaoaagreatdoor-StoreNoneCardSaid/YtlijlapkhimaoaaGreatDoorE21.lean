/- The evaluator, 21: what it answers is so. No program in sight. -/
import Derived.Test.YtlijlapkhimaoaaGreatDoorE20
namespace Go.Proofs.YtlijlapkhimaoaaGreatDoor
open Go Go.RowKit

def AnyOk (P : Program) : Req → List Out → Prop
  | .any r ops listed T N M s z, outs => (∀ o ∈ outs, o.e = .norm) → noDefer ops = true → Region.noSelect ops = true →
    ∀ (w0 : World) (A : Anch) (ν : Nm) (w : World) (ro : Option Nat) (a : Act) (L' : Array Bool) (E : Nat → Option Nat) (fuel : Nat) (Q : Exit → Act → World → Prop),
      A.h = z.h → Stand P w0 A ops N r ro M ν T s listed a w L' E → cntF L'.toList ≤ fuel → (∀ c a a' w, Q (.panic c) a w → Q (.panic c) a' w) →
      (∀ o ∈ outs, ∀ ν' a' w', Nm.le ν ν' → WRel P w0 A ν' o.s w' → FRel ν' o.T N a'.tmps → MRel ν' o.M a'.defers → Q .normal a' w') →
      wpAnyG ro P .any ops Q (Gd P ops A z.lm) fuel L' a w
  | _, _ => True

theorem concatN_spec {f : Nat → Res} : ∀ {B : List Nat} {outs : List Out}, concatN f B = some outs → ∀ c ∈ B, ∃ l, f c = some l ∧ ∀ o ∈ l, o ∈ outs
  | [], _, _, c, hc => by simp at hc
  | [b], outs, h, c, hc => by
    simp only [List.mem_singleton] at hc
    subst hc
    exact ⟨outs, h, fun _ h => h⟩
  | b :: d :: l, outs, h, c, hc => by
    unfold concatN at h
    split at h
    · cases h
    · rename_i x hx
      split at h
      · cases h
      · rename_i y hy
        injection h with h
        subst h
        rcases List.mem_cons.1 hc with rfl | hc
        · exact ⟨x, hx, fun o ho => List.mem_append_left _ ho⟩
        · obtain ⟨z, h1, h2⟩ := concatN_spec hy c hc
          exact ⟨z, h1, fun o ho => List.mem_append_right _ (h2 o ho)⟩

section
variable {P : Program} {ops : Array Oper} {N : Nat} {r ro : Option Nat} {M : List Nat} {T : Tr AV} {s s' : St} {L : Array Bool}

theorem any_sound {prims : Pr} {n : Nat} {rec : Req → Res} (ih : ∀ q outs, rec q = some outs → SoundReq P (AnyOk P) n outs q) {z : An} {outs : List Out}
    (h : evalBody P prims rec (.any r ops L T N M s z) = some outs) : SoundReq P (AnyOk P) (n + 1) outs (.any r ops L T N M s z) := by
  intro hnorm hnd hns w0 A ν w ro a L' E fuel Q hz hS hf hQ1 hQ2
  have pick : ∀ {i : Nat} {oi : Oper} {v : AV} {V : Value} {S : World → Prop}, ops[i]? = some oi → i ∈ Region.ready .any ops L → E i = none →
      (∀ j oj, ops[j]? = some oj → j ≠ i → L.getD j true = false → waits .any ops ops.size j i = false → oi.apart ops oj = true ∧ ∀ w w', Gd P ops A z.lm j w w' → S w → S w') →
      YieldsIf P ops S oi V a → S w → okD N oi.dst = true → den ν v = some V → forkR (fun v s => rec (.any r ops (L.setIfInBounds i true) (putD T oi.dst v) N M s z)) (forkV v s) = some outs → wpAnyG ro P .any ops Q (Gd P ops A z.lm) fuel L' a w :=
    fun {i oi v V S} hi hr hE hfree hy hSw hd hv hrec => by
      obtain ⟨p, hp, hpv, hW', hh, _⟩ := fork_spec hS.W hv
      obtain ⟨os, h1, h2⟩ := forkR_spec hrec p hp
      exact (hS.learn hW' hh).pick hi hr hE hnd hns hfree hy hSw hd hpv hQ1 hf fun fuel' hS' hf' =>
        ih _ _ h1 (fun o ho => hnorm o (h2 o ho)) hnd hns w0 A ν w ro _ _ E fuel' Q hz hS' hf' hQ1 fun o ho => hQ2 o (h2 o ho)
  have noE : ∀ {i : Nat} {oi : Oper}, ops[i]? = some oi → kindA P oi.op ≠ 3 ∨ wantedA ops T oi = some false → E i = none := fun {i oi} hi hk => by
    cases hE : E i with
    | none => rfl
    | some g =>
      obtain ⟨oj, d, OBJ, Vf, h1, h2, h3, h4, h5, h6, _⟩ := (hS.early i g hE).ex
      rw [hi] at h1
      injection h1 with h1
      subst h1
      rcases hk with hk | hk
      · exact absurd h5 hk
      · rw [wanted_rel hS.F hk] at h6
        cases h6
  unfold evalBody at h
  simp only at h
  unfold evAny at h
  split at h
  · rename_i hr0
    have hE0 : ∀ j, E j = none := fun j => by
      cases hE : E j with
      | none => rfl
      | some g =>
        have := hS.earlyReady hE
        rw [hr0] at this
        cases this
    simp only [norm1, Option.some.injEq] at h
    subst h
    refine wpAnyG_done ?_ (hQ2 _ (List.mem_singleton.2 rfl) ν a w (Nm.le.refl _) hS.W hS.F hS.M) fuel
    refine List.eq_nil_iff_forall_not_mem.2 fun i hi => ?_
    obtain ⟨h1, o, h2, h3⟩ := mem_ready.1 hi
    have hmem : i ∈ Region.ready .any ops L := mem_ready.2 ⟨((hS.rel i (Array.getElem?_eq_some_iff.1 h2).1).1 h1).1, o, h2, fun e he hb => by
      have hon := h3 e he hb
      have hlt : e.on < ops.size := hS.size' ▸ on_lt hon
      refine on_get (fun hoff => ?_) (hS.size ▸ hlt)
      have := (hS.rel e.on hlt).2 ⟨hoff, hE0 _⟩
      rw [on_of hon] at this
      cases this⟩
    rw [hr0] at hmem
    cases hmem
  · split at h
    · rename_i i d v hp
      obtain ⟨hir, o, hi, rfl, hd, hfree, hw⟩ := pickP_spec hp
      have hfr : ∀ j oj, ops[j]? = some oj → j ≠ i → L.getD j true = false → waits .any ops ops.size j i = false → o.apart ops oj = true ∧ ∀ w w', Gd P ops A z.lm j w w' → (fun _ => True) w → (fun _ : World => True) w' := fun j oj hj hne hoff hwt => by
        refine ⟨Region.free_spec hi hfree j oj hj hne hoff fun e he hb hon => ?_, fun _ _ _ _ => trivial⟩
        have : waits .any ops 1 j i = true := by
          unfold waits
          rw [hj]
          simp only [Array.any_eq_true', Bool.and_eq_true, Bool.or_eq_true, beq_iff_eq]
          exact ⟨e, he, hb, .inl hon⟩
        rw [waits_mono (by have := (Array.getElem?_eq_some_iff.1 hj).1; omega) this] at hwt
        cases hwt
      rcases hw with ⟨hw, rfl⟩ | ⟨hw, hk, hv⟩
      · exact pick hi hir (noE hi (.inr hw)) hfr (.inr ⟨wanted_rel hS.F hw, rfl⟩) trivial hd den_undA h
      · obtain ⟨V, h1, h2⟩ := pure0_rel hS.F (kind2_worldless hk hv) hv
        exact pick hi hir (noE hi (.inl (by rw [hk]; decide))) hfr (.inl ⟨wanted_rel hS.F hw, fun w _ => h2 w⟩) trivial hd h1 h
    · split at h
      · rename_i i d v hp
        obtain ⟨hir, o, k, hi, rfl, hd, hw, htg, hk, hzk, hfree, hv⟩ := pickR_spec hp
        rw [← hz] at hzk
        obtain ⟨ok, hok⟩ := Option.isSome_iff_exists.1 hzk
        obtain ⟨g, hg⟩ := hS.W.anc k ok hok
        have noall : ¬ ∀ i, i = k := fun h => by have h0 := h 0; have h1 := h 1; omega
        have hr0 : RRel P ν s (fun j => j = k) w := ⟨fun j oj _ hj => hS.W.rrel.f j oj trivial hj, fun h => absurd h noall⟩
        have hrr : ∀ w', w'.heap[g]? = w.heap[g]? → RRel P ν s (fun j => j = k) w' := fun w' he => ⟨fun j oj hjk hj => by
          subst hjk
          obtain ⟨g', obj, h1, h2, h3⟩ := hr0.f j oj rfl hj
          rw [hS.W.ext _ _ hg] at h1
          injection h1 with h1
          subst h1
          exact ⟨g, obj, hS.W.ext _ _ hg, he.trans h2, h3⟩, fun h => absurd h noall⟩
        have hD : (∀ k', targetA T o.op = some k' → k' = k) ∧ (targetA T o.op = none → ∀ i, i = k) := ⟨fun k' e => by rw [htg] at e; injection e with e; exact e.symm, fun e => by rw [htg] at e; cases e⟩
        obtain ⟨V, h1, h2⟩ := read_R hS.F hk hr0 hD hv
        refine pick (S := fun w' => w'.heap[g]? = w.heap[g]?) hi hir (noE hi (.inl (by rw [hk]; decide))) (fun j oj hj hne hoff hwt => ?_) (.inl ⟨wanted_rel hS.F hw, fun w' he => ?_⟩) rfl hd h1 h
        · obtain ⟨k1, k2⟩ := freeR_spec hi hfree j oj hj hne hoff hwt
          exact ⟨k1, fun w1 w2 hG he => (hG.2 k ok g hok hg k2).trans he⟩
        · obtain ⟨V', h3, h4⟩ := read_R hS.F hk (hrr w' he) hD hv
          rw [h1] at h3
          injection h3 with h3
          rw [h3]
          exact h4
      · split at h
        · rename_i i d v hp
          obtain ⟨hir, o, hi, rfl, hd, hw, hk, hfree, hv⟩ := pickQ_spec hp
          have hrr : ∀ w', (w.heap.size ≤ w'.heap.size ∧ ∀ g, g < w.heap.size → w'.heap[g]? = w.heap[g]?) → RRel P ν s (fun _ => True) w' := fun w' he => ⟨fun j oj _ hj => by
            obtain ⟨g', obj, h1, h2, h3⟩ := hS.W.rrel.f j oj trivial hj
            exact ⟨g', obj, h1, (he.2 g' (hS.W.lt hj h1)).trans h2, h3⟩, fun _ => hS.W.glob.keep he.2⟩
          have hD : (∀ k', targetA T o.op = some k' → True) ∧ (targetA T o.op = none → ∀ i : Nat, True) := ⟨fun _ _ => trivial, fun _ _ => trivial⟩
          obtain ⟨V, h1, h2⟩ := read_R hS.F hk hS.W.rrel hD hv
          refine pick (S := fun w' => w.heap.size ≤ w'.heap.size ∧ ∀ g, g < w.heap.size → w'.heap[g]? = w.heap[g]?) hi hir (noE hi (.inl (by rw [hk]; decide))) (fun j oj hj hne hoff hwt => ?_) (.inl ⟨wanted_rel hS.F hw, fun w' he => ?_⟩) ⟨Nat.le_refl _, fun _ _ => rfl⟩ hd h1 h
          · obtain ⟨k1, k2⟩ := freeQ_spec hi hfree j oj hj hne hoff hwt
            refine ⟨k1, fun w1 w2 hG he => ?_⟩
            obtain ⟨q1, q2⟩ := hG.1 oj hj k2
            exact ⟨Nat.le_trans he.1 q1, fun g hg => (q2 g (Nat.lt_of_lt_of_le hg he.1)).trans (he.2 g hg)⟩
          · obtain ⟨V', h3, h4⟩ := read_R hS.F hk (hrr w' he) hD hv
            rw [h1] at h3
            injection h3 with h3
            rw [h3]
            exact h4
        · split at h
          · cases h
          · rename_i hok
            have hne : pickB P ops T N (Region.ready .any ops L) ≠ [] := by
              unfold pickB
              split
              · cases hr : Region.ready .any ops L with
                | nil => exact absurd hr (by assumption)
                | cons c l => simp
              · rename_i l hl
                exact fun e => hl (by rw [e])
            generalize pickB P ops T N (Region.ready .any ops L) = B at h hok hne
            have hcs := concatN_spec h
            have hcont : ∀ c ∈ B, ∀ oc, ops[c]? = some oc → ∀ v s', (∃ outs', rec (.any r ops (L.setIfInBounds c true) (putD T oc.dst v) N M s' z) = some outs' ∧ ∀ o ∈ outs', o ∈ outs) → ∀ (ν' : Nm) (a' : Act) (w' : World) (L2 : Array Bool) (E2 : Nat → Option Nat) (fuel2 : Nat), Nm.le ν ν' → Stand P w0 A ops N r ro M ν' (putD T oc.dst v) s' (L.setIfInBounds c true) a' w' L2 E2 → cntF L2.toList ≤ fuel2 → wpAnyG ro P .any ops Q (Gd P ops A z.lm) fuel2 L2 a' w' := by
              rintro c _ oc _ v s' ⟨outs', h1, h2⟩ ν' a' w' L2 E2 fuel2 hν hS2 hf2
              exact ih _ _ h1 (fun o ho => hnorm o (h2 o ho)) hnd hns w0 A ν' w' ro a' L2 E2 fuel2 Q hz hS2 hf2 hQ1 fun o ho ν2 a2 w2 hν2 => hQ2 o (h2 o ho) ν2 a2 w2 (hν.trans hν2)
            by_cases hEB : ∀ c ∈ B, E c = none
            · refine Stand.x (Cont := fun c v s' => ∀ oc, ops[c]? = some oc → ∃ outs', rec (.any r ops (L.setIfInBounds c true) (putD T oc.dst v) N M s' z) = some outs' ∧ ∀ o ∈ outs', o ∈ outs) hne hok (fun c hcB oc hc => ?_) (fun c hcB oc hc v s' hcv => hcont c hcB oc hc v s' (hcv oc hc)) fuel L' E a w hS hEB hf
              obtain ⟨hcr, oc', hc', hd, hw, _⟩ := okB_in hok hcB
              rw [hc] at hc'
              injection hc' with hc'
              subst hc'
              obtain ⟨outsc, hfc, hsub⟩ := hcs c hcB
              intro a w K hW hF hK
              rw [hc] at hfc
              simp only at hfc
              split at hfc
              · rename_i hk3
                have hk3 := Nat.eq_of_beq_eq_true hk3
                split at hfc
                · rename_i obj f hm
                  obtain ⟨OBJ, Vf, m1, m2, m3⟩ := allocA_rel hF hm
                  have hk := hW.top s.n (Nat.le_refl _)
                  have hle := Nm.le_set hk w.heap.size
                  have hW2 : WRel P w0 A (ν.set s.n w.heap.size) (newO s obj) (w.alloc OBJ) := hW.alloc (n' := s.n + 1) hk (by omega) (by omega) (m1 _ hle)
                  refine one_value (noDefer_of (s := s) (T := T) (.inl (by rw [hk3]; decide))) (.inl (m3 w)) (hK _ _ (fun oc' hoc' => ?_) _ _ _ hle hW2 (m2 _ _ _ (Nm.set_same _ _ _)) (Gd.alloc hS.anch hW.big OBJ) fun g _ hg hfr => ⟨Below.heap_alloc _ _ _ hg, fun i o hi => ?_⟩)
                  · rw [hc] at hoc'
                    injection hoc' with hoc'
                    subst hoc'
                    exact ⟨outsc, hfc, hsub⟩
                  · simp only [newO] at hi
                    rw [Tr.get_put] at hi
                    split at hi
                    · rename_i e
                      rw [e, Nm.set_same]
                      intro e2
                      injection e2 with e2
                      omega
                    · rename_i e
                      simp only [Nm.set, if_neg e]
                      exact hfr i o hi
                · cases hfc
              · obtain ⟨l, h1, h2⟩ := bindO_spec hfc
                refine ih _ _ h1 w0 ⟨s.h, ν, w⟩ ν w ro a N hW.anchor hF hS.R K Q fun out ho ν' V w' hν hW' hV => ?_
                obtain ⟨os, h3, h4⟩ := h2 out ho
                split at h3
                · rename_i hcl
                  have hcl2 := hcl
                  simp only [Bool.and_eq_true] at hcl2
                  refine hK out.v ⟨out.s.h, out.s.n, out.s.log ++ s.log, out.s.x⟩ (fun oc' hoc' => ?_) ν' V w' hν (hW.back hW') hV (Gd.of_clean hS.anch hz hW hW' hcl2.1 fun oc' hoc' hq => ?_) fun g _ hg hfr => ⟨hW'.far g hg hfr, fun i o hi e => ?_⟩
                  · rw [hc] at hoc'
                    injection hoc' with hoc'
                    subst hoc'
                    exact ⟨os, h3, fun o ho => hsub o (h4 o ho)⟩
                  · rw [hc] at hoc'
                    injection hoc' with hoc'
                    subst hoc'
                    have := hcl2.2
                    rw [hq] at this
                    simpa using this
                  · rcases hW'.own i o hi g e with h5 | ⟨j, o', h5, h6⟩
                    · simp only at h5
                      omega
                    · exact hfr j o' h5 h6
                · exfalso
                  split at h3
                  · cases h3
                  · injection h3 with h3
                    subst h3
                    have := hnorm _ (hsub _ (h4 _ (List.mem_singleton.2 rfl)))
                    cases this
            · -- the one that is next was made early
              obtain ⟨c, hcB, hEc⟩ : ∃ c, c ∈ B ∧ E c ≠ none := Classical.byContradiction fun hn => hEB fun c hc => Classical.byContradiction fun he => hn ⟨c, hc, he⟩
              obtain ⟨hcr, oc, hc, hd, hw, hk3⟩ := okB_in hok hcB
              cases hE : E c with
              | none => exact absurd hE hEc
              | some g =>
                have hk3 : kindA P oc.op = 3 := Classical.byContradiction fun hk => by
                  rw [noE hc (.inl hk)] at hE
                  cases hE
                obtain ⟨outsc, hfc, hsub⟩ := hcs c hcB
                rw [hc] at hfc
                simp only [hk3] at hfc
                split at hfc
                · rename_i obj f hm
                  exact ih _ _ hfc (fun o ho => hnorm o (hsub o ho)) hnd hns w0 A _ w ro a L' _ fuel Q hz (hS.adopt hc hE hm) hf hQ1 fun o ho ν2 a2 w2 hν2 => hQ2 o (hsub o ho) ν2 a2 w2 ((Nm.le_set (hS.W.top s.n (Nat.le_refl _)) g).trans hν2)
                · cases hfc

theorem closed_none : Closed .any ops (Array.replicate ops.size false) := fun j oj _ hl => by
  have : (Array.replicate ops.size false).getD j false = false := by
    simp only [Array.getD_eq_getD_getElem?, Array.getElem?_replicate]
    split <;> rfl
  rw [this] at hl
  cases hl

theorem draw_sound (hm : P.follows .mixedOrders = true) {prims : Pr} {n : Nat} {rec : Req → Res} (ih : ∀ q outs, rec q = some outs → SoundReq P (AnyOk P) n outs q) {lm : List (Nat × Nat)} {outs : List Out}
    (h : evalBody P prims rec (.draw r ops T N M s lm) = some outs) : SoundReq P (AnyOk P) (n + 1) outs (.draw r ops T N M s lm) := by
  intro w0 A ν w ro a id hW hF hM hR
  unfold evalBody at h
  simp only at h
  unfold evDraw at h
  split at h
  · cases h
  · rename_i hnn
    simp only [Bool.and_eq_true] at hnn
    split at h
    · cases h
    · rename_i outs1 h1
      split at h
      · rename_i hdi
        split at h
        · rename_i hall
          injection h with h
          subst h
          have hnorm : ∀ o ∈ outs1, o.e = .norm := fun o ho => by
            have := List.all_eq_true.1 hall o ho
            split at this
            · assumption
            · cases this
          have hWd := hW.drew
          refine wpIn_region_any hm (wpAny_of_G (G := Gd P ops ⟨s.h, ν, w.drew⟩ lm) _ _ _ _ ?_)
          refine ih _ _ h1 hnorm hnn.1 hnn.2 w0 ⟨s.h, ν, w.drew⟩ ν w.drew ro a _ (fun _ => none) ops.size _ rfl ⟨hWd.anchOk, by simp, by simp, closed_none, closed_none, fun j _ => by simp, fun j g hg => (by cases hg), fun j k g hg => (by cases hg), fun j k g g' oj ok d hg => (by cases hg), hWd.anchor, hF, hM, hR⟩ (by have := cntF_le (Array.replicate ops.size false).toList; simpa using this) (fun c a a' w hp => ?_) fun o ho ν' a' w' hν hW' hF' hM' => ?_
          · obtain ⟨o, _, _, _, he, _⟩ := hp
            cases hoe : o.e <;> rw [hoe] at he <;> simp [SameEx] at he
          · obtain ⟨p, hp, c1, c2, c3, c4, c5, c6, c7, c8⟩ := ddOut_spec o ho
            refine ⟨_, List.mem_map.2 ⟨p, hp, rfl⟩, ν', hν, by rw [c1, hnorm o ho]; trivial, ?_, by rw [c3]; exact hF', by rw [c4]; exact hM'⟩
            have := ((hWd.back hW').later (n' := p.s.n) c6).more (lg := p.s.log ++ s.log) fun x hx => by
              rcases List.mem_append.1 hx with h | h
              · exact List.mem_append_left _ (c8 x h)
              · exact List.mem_append_right _ h
            have := this.swap (x := ⟨s.x.gl, p.s.x.pc⟩) ⟨(hWd.ctx.mono hν).gl, by rw [c7]; exact hW'.ctx.pc⟩
            simpa only [← c5] using this
        · cases h
      · exact ih _ _ h w0 A ν w ro a id hW hF hM hR

/-- WHAT THE EVALUATOR ANSWERS IS SO. -/
theorem eval_sound (hm : P.follows .mixedOrders = true) (hN : okNames P = true) {prims : Pr} (hP : PrimOk P prims) (hT : TabOk P (AnyOk P) prims.tab) (hPT : PTabOk P prims.ptab) : ∀ (n : Nat) (q : Req) (outs : List Out), eval P prims n q = some outs → SoundReq P (AnyOk P) n outs q
  | 0, _, _, h => by cases h
  | n + 1, q, outs, h => by
    have ih := eval_sound hm hN hP hT hPT n
    have h : evalBody P prims (eval P prims n) q = some outs := h
    cases q with
    | code r c T N M s => exact code_sound ih h
    | ops r ops l T N M s => exact ops_sound ih h
    | one r o T s => exact one_sound hN hP ih h
    | draw r ops T N M s lm => exact draw_sound hm ih h
    | any r ops L T N M s z => exact any_sound ih h
    | call f args s => exact call_sound hN hT hPT ih h
    | round l args s => exact round_sound ih h
    | scop r c x T N M s => exact scoped_sound ih h

/-- one more call is known -/
theorem tab_cons (hm : P.follows .mixedOrders = true) (hN : okNames P = true) {l : List (Nat × Nat × Nat)} {tab : List Ent} {ptab : List PEnt} (hP : PrimOk P ⟨l, tab, ptab⟩) (hT : TabOk P (AnyOk P) tab) (hPT : PTabOk P ptab) {n : Nat} {e : Ent} (h : eval P ⟨l, tab, ptab⟩ n (.call e.f e.args e.s) = some e.outs) : TabOk P (AnyOk P) (e :: tab) := fun x hx => by
  rcases List.mem_cons.1 hx with rfl | hx
  · exact eval_sound hm hN hP hT hPT n _ _ h
  · exact hT x hx
theorem tab_nil : TabOk P (AnyOk P) [] := fun x hx => by cases hx

/-- a call, from a world of which the packages' variables are known, and what the terms say -/
theorem eval_calls (hm : P.follows .mixedOrders = true) (hN : okNames P = true) {prims : Pr} (hP : PrimOk P prims) (hT : TabOk P (AnyOk P) prims.tab) (hPT : PTabOk P prims.ptab) {n f m : Nat} {args : List AV} {VS : List Value} {outs : List Out} {x : Ctx} (h : eval P prims n (.call f args ⟨.e, m, [], x⟩) = some outs)
    (ξ : Nat → Option Dat) (υ : Nat → List Dat → Option Dat) (hVS : denL ⟨fun _ => none, ξ, υ⟩ args = some VS) (w : World) (hx : CtxOk ⟨fun _ => none, ξ, υ⟩ x w) :
    Calls P f VS.toArray w fun e w' => Below w.heap.size w w' ∧ ∃ o ∈ outs, ∃ ν' V, Nm.le ⟨fun _ => none, ξ, υ⟩ ν' ∧ den ν' o.v = some V ∧ e = .returned V ∧ CtxOk ν' o.s.x w := by
  have hW : WRel P w ⟨.e, ⟨fun _ => none, ξ, υ⟩, w⟩ ⟨fun _ => none, ξ, υ⟩ ⟨.e, m, [], x⟩ w := ⟨Keep.refl _ _, fun _ _ => rfl, fun i o h => by simp [Tr.get] at h, fun i j o o' h => by simp [Tr.get] at h, Nm.le.refl _, fun i o h => by simp [Tr.get] at h, fun i o h => by simp [Tr.get] at h, fun _ _ _ => rfl, Nat.le_refl _, fun i o h => by simp [Tr.get] at h, hx⟩
  refine ((eval_sound hm hN hP hT hPT n _ _ h).2 w _ _ w VS hW hVS).mono fun e w' he => ?_
  obtain ⟨o, ho, ν', V, h1, h2, h3, h4⟩ := he
  exact ⟨h2.keep.below, o, ho, ν', V, h1, h3, h4, h2.ctx⟩
end

end Go.Proofs.YtlijlapkhimaoaaGreatDoor
