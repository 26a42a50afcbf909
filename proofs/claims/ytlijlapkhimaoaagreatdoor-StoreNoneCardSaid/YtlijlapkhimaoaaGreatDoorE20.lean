/- The evaluator, 20: regions that draw their order: what is picked. No program in sight. -/
import Derived.Test.YtlijlapkhimaoaaGreatDoorE19
namespace Go.Proofs.YtlijlapkhimaoaaGreatDoor
open Go Go.RowKit

section
variable {P : Program} {ops : Array Oper} {w0 w w' : World} {A : Anch} {N : Nat} {r ro : Option Nat} {M : List Nat} {ν ν' : Nm} {T : Tr AV} {s s' : St} {L L' : Array Bool} {a : Act} {E : Nat → Option Nat}

theorem Stand.learn (h : Stand P w0 A ops N r ro M ν T s L a w L' E) (hW : WRel P w0 A ν s' w) (hh : s'.h = s.h) : Stand P w0 A ops N r ro M ν T s' L a w L' E :=
  ⟨h.anch, h.size, h.size', h.cl, h.cl', h.rel, fun j g hg => by
    have e := h.early j g hg
    exact ⟨e.ex, e.off, e.old, e.zero, fun i o hi => e.free i o (hh ▸ hi)⟩, h.inj, h.dst, hW, h.F, h.M, h.R⟩

theorem Stand.pick (h : Stand P w0 A ops N r ro M ν T s L a w L' E) {i fuel : Nat} {oi : Oper} {v : AV} {V : Value} {S : World → Prop} {Q : Exit → Act → World → Prop} {lm : List (Nat × Nat)} (hi : ops[i]? = some oi) (hr : i ∈ Region.ready .any ops L) (hE : E i = none)
    (hnd : noDefer ops = true) (hns : Region.noSelect ops = true)
    (hfree : ∀ j oj, ops[j]? = some oj → j ≠ i → L.getD j true = false → waits .any ops ops.size j i = false → oi.apart ops oj = true ∧ ∀ w w', Gd P ops A lm j w w' → S w → S w')
    (hy : YieldsIf P ops S oi V a) (hS : S w) (hd : okD N oi.dst = true) (hv : den ν v = some V) (hQ : ∀ c a a' w, Q (.panic c) a w → Q (.panic c) a' w) (hf : cntF L'.toList ≤ fuel)
    (hk : ∀ fuel', Stand P w0 A ops N r ro M ν (putD T oi.dst v) s (L.setIfInBounds i true) (a.put oi.dst V) w (L'.setIfInBounds i true) E → cntF (L'.setIfInBounds i true).toList ≤ fuel' → wpAnyG ro P .any ops Q (Gd P ops A lm) fuel' (L'.setIfInBounds i true) (a.put oi.dst V) w) :
    wpAnyG ro P .any ops Q (Gd P ops A lm) fuel L' a w := by
  have hr' := h.ready hr hE
  have off := (mem_ready.1 hr').1
  have off0 := (mem_ready.1 hr).1
  cases fuel with
  | zero => exact absurd (Nat.le_zero.1 hf) (cnt_pos off)
  | succ fuel =>
    refine wpAnyG_first ops.size hi (fun j o ho c => noDefer_spec hnd ho c) (Region.noSelect_spec hns) (fun c a w h => hQ c _ _ w h) (fun w => Gd.refl w) fuel L' a w h.cl' (fun j oj hj hne hoff hw => hfree j oj hj hne ((h.rel j (Array.getElem?_eq_some_iff.1 hj).1).1 hoff).1 hw) hr' hy hS (hk fuel ?_ (cnt_set off hf))
    refine h.step hi hr hE (fun j g oj hg hoj => ?_) (Nm.le.refl _) h.W hd hv fun j g hg => ⟨rfl, (h.early j g hg).free⟩
    exact (hfree j oj hoj (fun e => by rw [e, hE] at hg; cases hg) (h.early j g hg).off (h.nowait off0 (h.earlyReady hg))).1

theorem pickP_spec {i : Nat} {d : Option Nat} {v : AV} : ∀ {rs : List Nat}, pickP P ops L T s N rs = some (i, d, v) → i ∈ rs ∧ ∃ o, ops[i]? = some o ∧ d = o.dst ∧ okD N o.dst = true ∧ Region.free .any ops L i = true ∧
    ((wantedA ops T o = some false ∧ v = undA) ∨ (wantedA ops T o = some true ∧ kindA P o.op = 2 ∧ pureA P s T o.op = some v))
  | [], h => by cases h
  | j :: rs, h => by
    have rest : ∀ {h : pickP P ops L T s N rs = some (i, d, v)}, i ∈ j :: rs ∧ ∃ o, ops[i]? = some o ∧ d = o.dst ∧ okD N o.dst = true ∧ Region.free .any ops L i = true ∧
        ((wantedA ops T o = some false ∧ v = undA) ∨ (wantedA ops T o = some true ∧ kindA P o.op = 2 ∧ pureA P s T o.op = some v)) := fun {h} => ⟨List.mem_cons_of_mem _ (pickP_spec h).1, (pickP_spec h).2⟩
    unfold pickP at h
    split at h
    · cases h
    · rename_i o ho
      split at h
      · rename_i hw
        split at h
        · rename_i hc
          simp only [Bool.and_eq_true] at hc
          simp only [Option.some.injEq, Prod.mk.injEq] at h
          obtain ⟨rfl, rfl, rfl⟩ := h
          exact ⟨List.mem_cons_self .., o, ho, rfl, hc.2, hc.1, .inl ⟨hw, rfl⟩⟩
        · exact rest (h := h)
      · rename_i hw
        split at h
        · rename_i hc
          simp only [Bool.and_eq_true] at hc
          split at h
          · rename_i v' hv
            simp only [Option.some.injEq, Prod.mk.injEq] at h
            obtain ⟨rfl, rfl, rfl⟩ := h
            exact ⟨List.mem_cons_self .., o, ho, rfl, hc.2, hc.1.2, .inr ⟨hw, Nat.eq_of_beq_eq_true hc.1.1, hv⟩⟩
          · cases h
        · exact rest (h := h)
      · cases h
theorem pickR_spec {i : Nat} {d : Option Nat} {v : AV} {b : Array Nat} {z : An} : ∀ {rs : List Nat}, pickR P b ops L T s N z rs = some (i, d, v) → i ∈ rs ∧ ∃ o k, ops[i]? = some o ∧ d = o.dst ∧ okD N o.dst = true ∧ wantedA ops T o = some true ∧ targetA T o.op = some k ∧
    kindA P o.op = 1 ∧ (z.h.get k).isSome = true ∧ freeR b ops L z k i = true ∧ pureA P s T o.op = some v
  | [], h => by cases h
  | j :: rs, h => by
    have rest : ∀ {h : pickR P b ops L T s N z rs = some (i, d, v)}, i ∈ j :: rs ∧ ∃ o k, ops[i]? = some o ∧ d = o.dst ∧ okD N o.dst = true ∧ wantedA ops T o = some true ∧ targetA T o.op = some k ∧
        kindA P o.op = 1 ∧ (z.h.get k).isSome = true ∧ freeR b ops L z k i = true ∧ pureA P s T o.op = some v := fun {h} => ⟨List.mem_cons_of_mem _ (pickR_spec h).1, (pickR_spec h).2⟩
    unfold pickR at h
    split at h
    · cases h
    · rename_i o ho
      split at h
      · rename_i k hw hk
        split at h
        · rename_i hc
          simp only [Bool.and_eq_true] at hc
          split at h
          · rename_i v' hv
            simp only [Option.some.injEq, Prod.mk.injEq] at h
            obtain ⟨rfl, rfl, rfl⟩ := h
            exact ⟨List.mem_cons_self .., o, k, ho, rfl, hc.1.1.2, hw, hk, Nat.eq_of_beq_eq_true hc.1.1.1, hc.1.2, hc.2, hv⟩
          · cases h
        · exact rest (h := h)
      · exact rest (h := h)
theorem pickQ_spec {i : Nat} {d : Option Nat} {v : AV} {b : Array Nat} : ∀ {rs : List Nat}, pickQ P b ops L T s N rs = some (i, d, v) → i ∈ rs ∧ ∃ o, ops[i]? = some o ∧ d = o.dst ∧ okD N o.dst = true ∧ wantedA ops T o = some true ∧
    kindA P o.op = 1 ∧ freeQ P b ops L i = true ∧ pureA P s T o.op = some v
  | [], h => by cases h
  | j :: rs, h => by
    have rest : ∀ {h : pickQ P b ops L T s N rs = some (i, d, v)}, i ∈ j :: rs ∧ ∃ o, ops[i]? = some o ∧ d = o.dst ∧ okD N o.dst = true ∧ wantedA ops T o = some true ∧
        kindA P o.op = 1 ∧ freeQ P b ops L i = true ∧ pureA P s T o.op = some v := fun {h} => ⟨List.mem_cons_of_mem _ (pickQ_spec h).1, (pickQ_spec h).2⟩
    unfold pickQ at h
    split at h
    · cases h
    · rename_i o ho
      split at h
      · rename_i hw
        split at h
        · rename_i hc
          simp only [Bool.and_eq_true] at hc
          split at h
          · rename_i v' hv
            simp only [Option.some.injEq, Prod.mk.injEq] at h
            obtain ⟨rfl, rfl, rfl⟩ := h
            exact ⟨List.mem_cons_self .., o, ho, rfl, hc.1.2, hw, Nat.eq_of_beq_eq_true hc.1.1, hc.2, hv⟩
          · cases h
        · exact rest (h := h)
      · exact rest (h := h)

theorem waits_size {i j : Nat} {oj : Oper} (hj : ops[j]? = some oj) (h : ((masksA ops.toList #[]).getD j 0).testBit i = true) : waits .any ops ops.size j i = true :=
  waits_mono (Array.getElem?_eq_some_iff.1 hj).1 (masks_waits h)
theorem freeR_spec {i k : Nat} {oi : Oper} {z : An} (hi : ops[i]? = some oi) (h : freeR (masksA ops.toList #[]) ops L z k i = true) (j : Nat) (oj : Oper) (hj : ops[j]? = some oj) (hne : j ≠ i) (hoff : L.getD j true = false) (hw : waits .any ops ops.size j i = false) : oi.apart ops oj = true ∧ inLm z.lm j k = false := by
  unfold freeR at h
  rw [hi] at h
  have := List.all_eq_true.1 h j (List.mem_range.2 (Array.getElem?_eq_some_iff.1 hj).1)
  rw [hj] at this
  simp only [hoff, Bool.or_eq_true, Bool.and_eq_true, Bool.not_eq_true', Bool.false_eq_true, or_false] at this
  rcases this with (h1 | h1) | h1
  · exact absurd (Nat.eq_of_beq_eq_true h1) hne
  · rw [waits_size hj h1] at hw
    cases hw
  · exact h1
theorem freeQ_spec {i : Nat} {oi : Oper} (hi : ops[i]? = some oi) (h : freeQ P (masksA ops.toList #[]) ops L i = true) (j : Nat) (oj : Oper) (hj : ops[j]? = some oj) (hne : j ≠ i) (hoff : L.getD j true = false) (hw : waits .any ops ops.size j i = false) : oi.apart ops oj = true ∧ quietK (kindA P oj.op) = true := by
  unfold freeQ at h
  rw [hi] at h
  have := List.all_eq_true.1 h j (List.mem_range.2 (Array.getElem?_eq_some_iff.1 hj).1)
  rw [hj] at this
  simp only [hoff, Bool.or_eq_true, Bool.and_eq_true, Bool.false_eq_true, or_false] at this
  rcases this with (h1 | h1) | h1
  · exact absurd (Nat.eq_of_beq_eq_true h1) hne
  · rw [waits_size hj h1] at hw
    cases hw
  · exact h1
theorem floatA_spec {o : Oper} (h : floatA P ops T N o = true) : kindA P o.op = 3 ∧ wantedA ops T o = some true ∧ ∃ d obj f, o.dst = some d ∧ d < N ∧ T.get d = none ∧ d ∉ o.looksAt ops ∧ allocA P T o.op = some (obj, f) := by
  unfold floatA at h
  simp only [Bool.and_eq_true] at h
  obtain ⟨⟨⟨⟨h1, h2⟩, h3⟩, h4⟩, h5⟩ := h
  have hw : wantedA ops T o = some true := by
    split at h4
    · assumption
    · cases h4
  obtain ⟨⟨obj, f⟩, hf⟩ := Option.isSome_iff_exists.1 h5
  split at h3
  · rename_i d hd
    simp only [Bool.and_eq_true, Bool.not_eq_true', Option.isNone_iff_eq_none] at h3
    rw [hd] at h2
    exact ⟨Nat.eq_of_beq_eq_true h1, hw, d, obj, f, hd, Nat.le_of_ble_eq_true h2, h3.1, by simpa using h3.2, hf⟩
  · cases h3
theorem apartAll_spec {oj : Oper} {j : Nat} : ∀ {rs : List Nat}, apartAll ops oj j rs = true → ∀ k ∈ rs, k ≠ j → ∀ ok, ops[k]? = some ok → oj.apart ops ok = true
  | [], _, k, hk, _, _, _ => by simp at hk
  | i :: rs, h, k, hk, hne, ok, hok => by
    simp only [apartAll, Bool.and_eq_true, Bool.or_eq_true] at h
    rcases List.mem_cons.1 hk with rfl | hk
    · rcases h.1 with h1 | h1
      · exact absurd (Nat.eq_of_beq_eq_true h1) hne
      · rw [hok] at h1
        exact h1
    · exact apartAll_spec h.2 k hk hne ok hok
theorem anyBeq {l : List Nat} {j : Nat} (h : l.any (Nat.beq j) = true) : j ∈ l := by
  obtain ⟨k, hk, hb⟩ := List.any_eq_true.1 h
  rw [Nat.eq_of_beq_eq_true hb]
  exact hk
theorem okB_in {rs B : List Nat} {b : Array Nat} (h : okB P b ops L T N rs B = true) {c : Nat} (hc : c ∈ B) : c ∈ rs ∧ ∃ oc, ops[c]? = some oc ∧ okD N oc.dst = true ∧ wantedA ops T oc = some true ∧ (B.length = 1 ∨ kindA P oc.op ≠ 3) := by
  unfold okB at h
  simp only [Bool.and_eq_true] at h
  have := List.all_eq_true.1 h.1.2 c hc
  split at this
  · cases this
  · rename_i oc hoc
    simp only [Bool.and_eq_true, Bool.or_eq_true, Bool.not_eq_true'] at this
    obtain ⟨⟨⟨h1, h2⟩, h3⟩, h4⟩ := this
    refine ⟨anyBeq h1, oc, hoc, h2, ?_, ?_⟩
    · split at h3
      · assumption
      · cases h3
    · rcases h4 with h4 | h4
      · exact .inl (Nat.eq_of_beq_eq_true h4)
      · exact .inr fun e => by rw [e] at h4; cases h4
theorem okB_spec {rs B : List Nat} (h : okB P (masksA ops.toList #[]) ops L T N rs B = true) (j : Nat) (oj : Oper) (hj : ops[j]? = some oj) (hne : j ∉ B) (hoff : L.getD j true = false) :
    (∃ c ∈ B, waits .any ops ops.size j c = true) ∨ (j ∈ rs ∧ floatA P ops T N oj = true ∧ (∀ c ∈ B, ∀ oc, ops[c]? = some oc → oc.apart ops oj = true) ∧ ∀ k ∈ rs, k ≠ j → ∀ ok, ops[k]? = some ok → oj.apart ops ok = true) := by
  unfold okB at h
  simp only [Bool.and_eq_true] at h
  have := List.all_eq_true.1 h.2 j (List.mem_range.2 (Array.getElem?_eq_some_iff.1 hj).1)
  rw [hj] at this
  simp only [hoff, Bool.or_eq_true, Bool.and_eq_true, Bool.false_eq_true, or_false] at this
  rcases this with (h1 | h1) | h1
  · exact absurd (anyBeq h1) hne
  · obtain ⟨c, hc, hb⟩ := List.any_eq_true.1 h1
    exact .inl ⟨c, hc, waits_size hj hb⟩
  · obtain ⟨⟨⟨h1, h2⟩, h3⟩, h4⟩ := h1
    refine .inr ⟨anyBeq h1, h2, fun c hc oc hoc => ?_, apartAll_spec h4⟩
    have := List.all_eq_true.1 h3 c hc
    rw [hoc] at this
    exact this

/-- what operation c does, beside the run -/
def Runs (P : Program) (w0 : World) (A : Anch) (ops : Array Oper) (lm : List (Nat × Nat)) (N : Nat) (ro : Option Nat) (ν : Nm) (T : Tr AV) (s : St) (Q : Exit → Act → World → Prop) (c : Nat) (oc : Oper) (Cont : AV → St → Prop) : Prop :=
  ∀ (a : Act) (w : World) (K : Act → World → Prop), WRel P w0 A ν s w → FRel ν T N a.tmps →
    (∀ v s', Cont v s' → ∀ ν' V w', Nm.le ν ν' → WRel P w0 A ν' s' w' → den ν' v = some V → Gd P ops A lm c w w' →
      (∀ g, A.w.heap.size ≤ g → g < w.heap.size → (∀ i o, s.h.get i = some o → ν i ≠ some g) → w'.heap[g]? = w.heap[g]? ∧ ∀ i o, s'.h.get i = some o → ν' i ≠ some g) → K (a.put oc.dst V) w') →
    oc.wpIn (fz ro) 0 P a w K Q

theorem Stand.x {Q : Exit → Act → World → Prop} {lm : List (Nat × Nat)} {B : List Nat} {Cont : Nat → AV → St → Prop} (hB : B ≠ []) (hok : okB P (masksA ops.toList #[]) ops L T N (Region.ready .any ops L) B = true)
    (hrun : ∀ c ∈ B, ∀ oc, ops[c]? = some oc → Runs P w0 A ops lm N ro ν T s Q c oc (Cont c))
    (hcont : ∀ c ∈ B, ∀ oc, ops[c]? = some oc → ∀ v s', Cont c v s' → ∀ (ν' : Nm) (a' : Act) (w' : World) (L2 : Array Bool) (E2 : Nat → Option Nat) (fuel2 : Nat), Nm.le ν ν' → Stand P w0 A ops N r ro M ν' (putD T oc.dst v) s' (L.setIfInBounds c true) a' w' L2 E2 → cntF L2.toList ≤ fuel2 → wpAnyG ro P .any ops Q (Gd P ops A lm) fuel2 L2 a' w') :
    ∀ (fuel : Nat) (L' : Array Bool) (E : Nat → Option Nat) (a : Act) (w : World), Stand P w0 A ops N r ro M ν T s L a w L' E → (∀ c ∈ B, E c = none) → cntF L'.toList ≤ fuel → wpAnyG ro P .any ops Q (Gd P ops A lm) fuel L' a w := by
  obtain ⟨c0, hc0⟩ : ∃ c, c ∈ B := by
    cases B with
    | nil => exact absurd rfl hB
    | cons c l => exact ⟨c, List.mem_cons_self ..⟩
  intro fuel
  induction fuel with
  | zero =>
    intro L' E a w h hE hf
    exact absurd (Nat.le_zero.1 hf) (cnt_pos (mem_ready.1 (h.ready (okB_in hok hc0).1 (hE c0 hc0))).1)
  | succ fuel ih =>
    intro L' E a w h hE hf
    have hcr' := h.ready (okB_in hok hc0).1 (hE c0 hc0)
    have hearly : ∀ j g oj, E j = some g → ops[j]? = some oj → j ∈ Region.ready .any ops L ∧ (∀ c ∈ B, ∀ oc, ops[c]? = some oc → oc.apart ops oj = true) ∧ ∀ k ∈ Region.ready .any ops L, k ≠ j → ∀ ok, ops[k]? = some ok → oj.apart ops ok = true := fun j g oj hg hoj => by
      have hne : j ∉ B := fun e => by rw [hE j e] at hg; cases hg
      rcases okB_spec hok j oj hoj hne (h.early j g hg).off with ⟨c, hc, h1⟩ | ⟨h1, _, h2, h3⟩
      · rw [h.nowait (mem_ready.1 (okB_in hok hc).1).1 (h.earlyReady hg)] at h1
        cases h1
      · exact ⟨h1, h2, h3⟩
    refine ⟨fun e => (by rw [e] at hcr'; cases hcr'), fun i hi => ?_⟩
    by_cases e : i ∈ B
    · obtain ⟨hcr, oc, hc, hd, hwant, _⟩ := okB_in hok e
      have offc' := (mem_ready.1 (h.ready hcr (hE i e))).1
      unfold wpOpIn
      rw [hc]
      simp only
      rw [if_pos (wanted_rel h.F hwant)]
      refine hrun i e oc hc a w _ h.W h.F fun v s' hcv ν' V w' hν hW hV hG hfr => ⟨hG, hcont i e oc hc v s' hcv ν' _ w' _ E fuel hν ?_ (cnt_set offc' hf)⟩
      exact h.step hc hcr (hE i e) (fun j g oj hg hoj => (hearly j g oj hg hoj).2.1 i e oc hc) hν hW hd hV fun j g hg => by
        have he := h.early j g hg
        obtain ⟨_, _, _, _, _, _, _, _, _, _, _, _, h9, _⟩ := he.ex
        exact hfr g he.old (Array.getElem?_eq_some_iff.1 h9).1 he.free
    · obtain ⟨offi', oi, hoi, hdeps⟩ := mem_ready.1 hi
      obtain ⟨offi, hEi⟩ := (h.rel i (Array.getElem?_eq_some_iff.1 hoi).1).1 offi'
      rcases okB_spec hok i oi hoi e offi with ⟨c, hc, h1⟩ | ⟨h1, h2, h3, h4⟩
      · have := on_of (waits_listed h.cl' ops.size i oi hoi hdeps h1)
        rw [(mem_ready.1 (h.ready (okB_in hok hc).1 (hE c hc))).1] at this
        cases this
      · obtain ⟨k1, k2, d, obj, f, k3, k4, k5, k6, k7⟩ := floatA_spec h2
        obtain ⟨OBJ, Vf, m1, m2, m3⟩ := allocA_rel h.F k7
        have hw := wanted_rel h.F k2
        unfold wpOpIn
        rw [hoi]
        simp only
        rw [if_pos hw]
        refine one_value (noDefer_of (s := s) (T := T) (.inl (by rw [k1]; decide))) (.inl (m3 w)) ⟨Gd.alloc h.anch h.W.big OBJ, ih _ _ _ _ (h.float hoi h1 hEi (fun j g oj hg hoj => ?_) k3 k4 k5 k1 k6 hw m3) (fun c hc => ?_) (cnt_set offi' hf)⟩
        · obtain ⟨n1, n2, n3⟩ := hearly j g oj hg hoj
          exact h4 j n1 (fun e => by rw [e, hEi] at hg; cases hg) oj hoj
        · rw [if_neg fun e' => e (by rw [← e']; exact hc)]
          exact hE c hc
end

end Go.Proofs.YtlijlapkhimaoaaGreatDoor
