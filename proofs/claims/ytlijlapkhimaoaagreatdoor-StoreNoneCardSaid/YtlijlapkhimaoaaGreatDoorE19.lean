/- The evaluator, 19: regions that draw their order: how things stand in whatever order, against the one that was run. No program in sight. -/
import Derived.Test.YtlijlapkhimaoaaGreatDoorE18
namespace Go.Proofs.YtlijlapkhimaoaaGreatDoor
open Go Go.RowKit

def cntF : List Bool → Nat
  | [] => 0
  | true :: l => cntF l
  | false :: l => cntF l + 1
theorem cntF_set : ∀ {l : List Bool} {i : Nat}, l[i]? = some false → cntF (l.set i true) + 1 = cntF l
  | [], i, h => by simp at h
  | b :: l, 0, h => by
    simp only [List.getElem?_cons_zero, Option.some.injEq] at h
    subst h
    rfl
  | b :: l, i + 1, h => by
    have := cntF_set (l := l) (i := i) (by simpa using h)
    cases b <;> simp only [List.set_cons_succ, cntF] <;> omega
theorem cntF_le : ∀ l : List Bool, cntF l ≤ l.length
  | [] => Nat.le_refl _
  | true :: l => by have := cntF_le l; simp only [cntF, List.length_cons]; omega
  | false :: l => by have := cntF_le l; simp only [cntF, List.length_cons]; omega
theorem off_get {L : Array Bool} {i : Nat} (h : L.getD i true = false) : L.toList[i]? = some false := by
  rw [Array.getD_eq_getD_getElem?] at h
  rw [Array.getElem?_toList]
  cases hi : L[i]? with
  | none => rw [hi] at h; cases h
  | some b => rw [hi] at h; simp at h; rw [h]
theorem cnt_set {L : Array Bool} {i n : Nat} (h : L.getD i true = false) (hn : cntF L.toList ≤ n + 1) : cntF (L.setIfInBounds i true).toList ≤ n := by
  have := cntF_set (off_get h)
  rw [Array.toList_setIfInBounds]
  omega
theorem cnt_pos {L : Array Bool} {i : Nat} (h : L.getD i true = false) : cntF L.toList ≠ 0 := by
  have := cntF_set (off_get h)
  omega
theorem on_of {L : Array Bool} {i : Nat} (h : L.getD i false = true) : L.getD i true = true := by
  rw [Array.getD_eq_getD_getElem?] at h ⊢
  cases hi : L[i]? with
  | none => rw [hi] at h; cases h
  | some b => rw [hi] at h; exact h
theorem on_lt {L : Array Bool} {i : Nat} (h : L.getD i false = true) : i < L.size := by
  rw [Array.getD_eq_getD_getElem?] at h
  rcases Nat.lt_or_ge i L.size with h' | h'
  · exact h'
  · rw [Array.getElem?_eq_none h'] at h; cases h
theorem on_get {L : Array Bool} {i : Nat} (h : L.getD i true ≠ false) (hi : i < L.size) : L.getD i false = true := by
  rw [Array.getD_eq_getD_getElem?] at h ⊢
  rw [Array.getElem?_eq_getElem hi] at h ⊢
  simpa using h
theorem set_off {L : Array Bool} {i : Nat} (hi : i < L.size) : (L.setIfInBounds i true).getD i true ≠ false := by
  simp [hi]

section
variable {P : Program} {ops : Array Oper}

/-- thing g was made early, by operation j -/
structure Early (P : Program) (w0 : World) (A : Anch) (ν : Nm) (s : St) (w : World) (ops : Array Oper) (T : Tr AV) (N : Nat) (L : Array Bool) (a : Act) (j g : Nat) : Prop where
  ex : ∃ (oj : Oper) (d : Nat) (OBJ : Obj) (Vf : Nat → Value), ops[j]? = some oj ∧ oj.dst = some d ∧ d < N ∧ T.get d = none ∧ kindA P oj.op = 3 ∧ Region.wanted oj (yielded ops a.tmps) = true ∧ (∀ e ∈ oj.after, Region.binds .any e = true → L.getD e.on false = true) ∧
    (∀ w, (execOp a.eval oj).run P w = .ok (.value (Vf w.heap.size)) (w.alloc OBJ)) ∧ w.heap[g]? = some OBJ ∧ a.tmps[d]? = some (Vf g)
  off : L.getD j true = false
  old : A.w.heap.size ≤ g
  zero : w0.heap.size ≤ g
  free : ∀ i o, s.h.get i = some o → ν i ≠ some g

theorem noSel3 {oj : Oper} (h : kindA P oj.op = 3) (cs : Array SelectCase) (b : Bool) : oj.op ≠ .select cs b := fun e => by
  rw [e] at h
  simp [kindA] at h

theorem Early.keep {w0 w w' : World} {A : Anch} {ν ν' : Nm} {s s' : St} {T T1 : Tr AV} {N : Nat} {L L1 : Array Bool} {a : Act} {j g : Nat} (he : Early P w0 A ν s w ops T N L a j g) {dst : Option Nat} {V : Value}
    (hap : ∀ oj, ops[j]? = some oj → (∀ d, dst = some d → d ∉ oj.looksAt ops) ∧ ∀ d, dst = some d → oj.dst ≠ some d) (hT : ∀ d, T.get d = none → (∀ d', dst = some d' → d' ≠ d) → T1.get d = none) (hL : L1.getD j true = false) (hLs : ∀ k, L.getD k false = true → L1.getD k false = true)
    (hw : w'.heap[g]? = w.heap[g]?) (hf : ∀ i o, s'.h.get i = some o → ν' i ≠ some g) : Early P w0 A ν' s' w' ops T1 N L1 (a.put dst V) j g := by
  obtain ⟨oj, d, OBJ, Vf, h1, h2, h3, h4, h5, h6, h7, h8, h9, h10⟩ := he.ex
  obtain ⟨k1, k2⟩ := hap oj h1
  have hne : ∀ d', dst = some d' → d' ≠ d := fun d' e e' => k2 d' e (e' ▸ h2)
  refine ⟨⟨oj, d, OBJ, Vf, h1, h2, h3, hT d h4 hne, h5, ?_, fun e he hb => hLs _ (h7 e he hb), ?_, hw.trans h9, ?_⟩, hL, he.old, he.zero, hf⟩
  · rw [wanted_put oj a dst V k1]
    exact h6
  · rw [execOp_put oj (noSel3 h5) a dst V k1]
    exact h8
  · cases dst with
    | none => exact h10
    | some d' =>
      show (a.tmps.setIfInBounds d' V)[d]? = _
      rw [Array.getElem?_setIfInBounds_ne (hne d' rfl)]
      exact h10

/-- how things stand: L: what the run has done; L': what was done in truth; E: what was made early -/
structure Stand (P : Program) (w0 : World) (A : Anch) (ops : Array Oper) (N : Nat) (r ro : Option Nat) (M : List Nat) (ν : Nm) (T : Tr AV) (s : St) (L : Array Bool) (a : Act) (w : World) (L' : Array Bool) (E : Nat → Option Nat) : Prop where
  anch : AnchOk A
  size : L.size = ops.size
  size' : L'.size = ops.size
  cl : Closed .any ops L
  cl' : Closed .any ops L'
  rel : ∀ j, j < ops.size → (L'.getD j true = false ↔ L.getD j true = false ∧ E j = none)
  early : ∀ j g, E j = some g → Early P w0 A ν s w ops T N L a j g
  inj : ∀ j k g, E j = some g → E k = some g → j = k
  dst : ∀ j k g g' oj ok d, E j = some g → E k = some g' → j ≠ k → ops[j]? = some oj → ops[k]? = some ok → oj.dst = some d → ok.dst ≠ some d
  W : WRel P w0 A ν s w
  F : FRel ν T N a.tmps
  M : MRel ν M a.defers
  R : RR ν r ro

variable {w0 w w' : World} {A : Anch} {N : Nat} {r ro : Option Nat} {M : List Nat} {ν ν' : Nm} {T : Tr AV} {s s' : St} {L L' : Array Bool} {a : Act} {E : Nat → Option Nat}

theorem Stand.on (h : Stand P w0 A ops N r ro M ν T s L a w L' E) {k : Nat} (hk : L.getD k false = true) : L'.getD k false = true := by
  have hlt : k < ops.size := h.size ▸ on_lt hk
  refine on_get (fun e => ?_) (h.size' ▸ hlt)
  have := ((h.rel k hlt).1 e).1
  rw [on_of hk] at this
  cases this
theorem Stand.ready (h : Stand P w0 A ops N r ro M ν T s L a w L' E) {i : Nat} (hi : i ∈ Region.ready .any ops L) (hE : E i = none) : i ∈ Region.ready .any ops L' := by
  obtain ⟨h1, o, h2, h3⟩ := mem_ready.1 hi
  exact mem_ready.2 ⟨(h.rel i (Array.getElem?_eq_some_iff.1 h2).1).2 ⟨h1, hE⟩, o, h2, fun e he hb => h.on (h3 e he hb)⟩
theorem Stand.earlyReady (h : Stand P w0 A ops N r ro M ν T s L a w L' E) {j g : Nat} (hE : E j = some g) : j ∈ Region.ready .any ops L := by
  obtain ⟨oj, d, OBJ, Vf, h1, _, _, _, _, _, h7, _⟩ := (h.early j g hE).ex
  exact mem_ready.2 ⟨(h.early j g hE).off, oj, h1, h7⟩
theorem Stand.nowait (h : Stand P w0 A ops N r ro M ν T s L a w L' E) {i j m : Nat} (hi : L.getD i true = false) (hj : j ∈ Region.ready .any ops L) : waits .any ops m j i = false := by
  obtain ⟨_, oj, h2, h3⟩ := mem_ready.1 hj
  cases hw : waits .any ops m j i with
  | false => rfl
  | true =>
    have := on_of (waits_listed h.cl m j oj h2 h3 hw)
    rw [hi] at this
    cases this

theorem MRel.put {d : Option Nat} {V : Value} (h : MRel ν M a.defers) : MRel ν M (a.put d V).defers := by
  cases d <;> exact h

/-- operation i is done, in truth and in the run -/
theorem Stand.step (h : Stand P w0 A ops N r ro M ν T s L a w L' E) {i : Nat} {oi : Oper} {v : AV} {V : Value} (hi : ops[i]? = some oi) (hr : i ∈ Region.ready .any ops L) (hE : E i = none)
    (hap : ∀ j g oj, E j = some g → ops[j]? = some oj → oi.apart ops oj = true) (hν : Nm.le ν ν') (hW : WRel P w0 A ν' s' w') (hd : okD N oi.dst = true) (hv : den ν' v = some V)
    (hw : ∀ j g, E j = some g → w'.heap[g]? = w.heap[g]? ∧ ∀ i o, s'.h.get i = some o → ν' i ≠ some g) : Stand P w0 A ops N r ro M ν' (putD T oi.dst v) s' (L.setIfInBounds i true) (a.put oi.dst V) w' (L'.setIfInBounds i true) E := by
  have hlt : i < ops.size := (Array.getElem?_eq_some_iff.1 hi).1
  refine ⟨h.anch, by simp [h.size], by simp [h.size'], h.cl.set hr, h.cl'.set (h.ready hr hE), fun j hj => ?_, fun j g hg => ?_, h.inj, h.dst, hW, (h.F.mono hν).putD hd hv, (h.M.mono hν).put, h.R.mono hν⟩
  · by_cases e : i = j
    · subst e
      exact ⟨fun e => absurd e (set_off (h.size' ▸ hlt)), fun e => absurd e.1 (set_off (h.size ▸ hlt))⟩
    · rw [getD_set_ne true e, getD_set_ne true e]
      exact h.rel j hj
  · have hne : i ≠ j := fun e => by rw [← e, hE] at hg; cases hg
    refine (h.early j g hg).keep (fun oj hoj => ?_) (fun d hT hne => ?_) ?_ (fun k hk => getD_set_true hk) (hw j g hg).1 (hw j g hg).2
    · obtain ⟨h1, h2, _⟩ := Oper.apart_spec (hap j g oj hg hoj)
      exact ⟨h1, h2⟩
    · cases ho : oi.dst with
      | none => exact hT
      | some d' =>
        show (T.put d' (some v)).get d = none
        rw [Tr.get_put, if_neg fun e => hne d' ho e.symm]
        exact hT
    · rw [getD_set_ne true hne]
      exact (h.early j g hg).off

/-- operation i makes its thing early -/
theorem Stand.float (h : Stand P w0 A ops N r ro M ν T s L a w L' E) {i d : Nat} {oi : Oper} {OBJ : Obj} {Vf : Nat → Value} (hi : ops[i]? = some oi) (hr : i ∈ Region.ready .any ops L) (hE : E i = none)
    (hap : ∀ j g oj, E j = some g → ops[j]? = some oj → oi.apart ops oj = true) (hd : oi.dst = some d) (hdN : d < N) (hT : T.get d = none) (hk : kindA P oi.op = 3) (hself : d ∉ oi.looksAt ops) (hw : Region.wanted oi (yielded ops a.tmps) = true)
    (hrun : ∀ w, (execOp a.eval oi).run P w = .ok (.value (Vf w.heap.size)) (w.alloc OBJ)) :
    Stand P w0 A ops N r ro M ν T s L (a.put oi.dst (Vf w.heap.size)) (w.alloc OBJ) (L'.setIfInBounds i true) fun k => if k = i then some w.heap.size else E k := by
  have hlt : i < ops.size := (Array.getElem?_eq_some_iff.1 hi).1
  have hap' : ∀ d', oi.dst = some d' → d' ∉ oi.looksAt ops := fun d' e => by
    rw [hd] at e
    injection e with e
    exact e ▸ hself
  have hold : ∀ j g, E j = some g → g < w.heap.size := fun j g hg => by
    obtain ⟨_, _, _, _, _, _, _, _, _, _, _, _, h9, _⟩ := (h.early j g hg).ex
    exact (Array.getElem?_eq_some_iff.1 h9).1
  refine ⟨h.anch, h.size, by simp [h.size'], h.cl, h.cl'.set (h.ready hr hE), fun j hj => ?_, fun j g hg => ?_, fun j k g hj hk => ?_, fun j k g g' oj ok d' hj hk hne hoj hok hdj => ?_, h.W.stray _, ⟨?_, fun k u hu => ?_⟩, h.M.put, h.R⟩
  · by_cases e : j = i
    · subst e
      simp only [if_true]
      exact ⟨fun e => absurd e (set_off (h.size' ▸ hlt)), fun e => by cases e.2⟩
    · rw [getD_set_ne true (Ne.symm e), if_neg e]
      exact h.rel j hj
  · by_cases e : j = i
    · subst e
      simp only [if_true, Option.some.injEq] at hg
      subst hg
      obtain ⟨h1, o, h2, h3⟩ := mem_ready.1 hr
      rw [hi] at h2
      injection h2 with h2
      subst h2
      refine ⟨⟨oi, d, OBJ, Vf, hi, hd, hdN, hT, hk, ?_, h3, ?_, World.alloc_heap_new _ _, ?_⟩, h1, h.W.big, h.W.keep.size, fun k o hk' e => ?_⟩
      · rw [wanted_put oi a oi.dst _ hap']
        exact hw
      · rw [execOp_put oi (noSel3 hk) a oi.dst _ hap']
        exact hrun
      · rw [hd]
        show (a.tmps.setIfInBounds d _)[d]? = _
        simp [h.F.size, hdN]
      · have := h.W.lt hk' e
        omega
    · simp only [if_neg e] at hg
      refine (h.early j g hg).keep (fun oj hoj => ?_) (fun _ h _ => h) (h.early j g hg).off (fun _ h => h) (Below.heap_alloc _ _ _ (hold j g hg)) (h.early j g hg).free
      obtain ⟨h1, h2, _⟩ := Oper.apart_spec (hap j g oj hg hoj)
      exact ⟨h1, h2⟩
  · by_cases e : j = i <;> by_cases e' : k = i
    · rw [e, e']
    · simp only [if_pos e, if_neg e', Option.some.injEq] at hj hk
      have := hold k g hk
      omega
    · simp only [if_neg e, if_pos e', Option.some.injEq] at hj hk
      have := hold j g hj
      omega
    · simp only [if_neg e, if_neg e'] at hj hk
      exact h.inj j k g hj hk
  · by_cases e : j = i <;> by_cases e' : k = i
    · exact absurd (e.trans e'.symm) hne
    · simp only [if_pos e, if_neg e'] at hj hk
      subst e
      rw [hi] at hoj
      injection hoj with hoj
      subst hoj
      exact (Oper.apart_spec (hap k g' ok hk hok)).2.1 d' hdj
    · simp only [if_neg e, if_pos e'] at hj hk
      subst e'
      rw [hi] at hok
      injection hok with hok
      subst hok
      intro e2
      exact (Oper.apart_spec (hap j g oj hj hoj)).2.1 d' e2 hdj
    · simp only [if_neg e, if_neg e'] at hj hk
      exact h.dst j k g g' oj ok d' hj hk hne hoj hok hdj
  · rw [hd]
    simp [Act.put, h.F.size]
  · obtain ⟨V, h1, h2⟩ := h.F.slots k u hu
    refine ⟨V, h1, ?_⟩
    rw [hd]
    show (a.tmps.setIfInBounds d _)[k]? = _
    rw [Array.getElem?_setIfInBounds_ne fun e => by rw [← e, hT] at hu; cases hu]
    exact h2

/-- the run comes to what was made early -/
theorem Stand.adopt (h : Stand P w0 A ops N r ro M ν T s L a w L' E) {i g : Nat} {oi : Oper} {obj : AObj} {f : Nat → AV} (hi : ops[i]? = some oi) (hE : E i = some g) (hm : allocA P T oi.op = some (obj, f)) :
    Stand P w0 A ops N r ro M (ν.set s.n g) (putD T oi.dst (f s.n)) (newO s obj) (L.setIfInBounds i true) a w L' fun k => if k = i then none else E k := by
  have hlt : i < ops.size := (Array.getElem?_eq_some_iff.1 hi).1
  have he := h.early i g hE
  obtain ⟨o, d, OBJ, Vf, h1, h2, h3, h4, h5, h6, h7, h8, h9, h10⟩ := he.ex
  rw [hi] at h1
  injection h1 with h1
  subst h1
  obtain ⟨OBJ', Vf', k1, k2, k3⟩ := allocA_rel h.F hm
  have hk := h.W.top s.n (Nat.le_refl _)
  have hle := Nm.le_set hk g
  have heq : ∀ w : World, Vf w.heap.size = Vf' w.heap.size ∧ w.alloc OBJ = w.alloc OBJ' := fun w => by
    have := (h8 w).symm.trans (k3 w)
    injection this with e1 e2
    injection e1 with e1
    exact ⟨e1, e2⟩
  have hO : OBJ = OBJ' := by
    have e := (heq w).2
    have h1 := World.alloc_heap_new w OBJ
    rw [e, World.alloc_heap_new] at h1
    injection h1 with h1
    exact h1.symm
  have hV : Vf g = Vf' g := by
    have := (heq { w with heap := Array.replicate g OBJ }).1
    simpa using this
  subst hO
  have hdv : den (ν.set s.n g) (f s.n) = some (Vf g) := by rw [hV]; exact k2 _ _ _ (Nm.set_same _ _ _)
  have hW : WRel P w0 A (ν.set s.n g) (newO s obj) w := h.W.adopt (n' := s.n + 1) hk (by omega) (by omega) h9 he.zero he.free (.inl he.old) (k1 _ hle)
  refine ⟨h.anch, by simp [h.size], h.size', h.cl.set (h.earlyReady hE), h.cl', fun j hj => ?_, fun j g' hg => ?_, fun j k g' hj hk => ?_, fun j k g1 g2 oj ok d' hj hk hne hoj hok hdj => ?_, hW, ?_, h.M.mono hle, h.R.mono hle⟩
  · by_cases e : j = i
    · subst e
      refine ⟨fun e => ?_, fun e => absurd e.1 (set_off (h.size ▸ hlt))⟩
      have := ((h.rel j hj).1 e).2
      rw [hE] at this
      cases this
    · rw [getD_set_ne true (Ne.symm e), if_neg e]
      exact h.rel j hj
  · by_cases e : j = i
    · simp only [if_pos e] at hg
      cases hg
    · simp only [if_neg e] at hg
      have hj := h.early j g' hg
      have hne : g' ≠ g := fun e' => e (h.inj j i g' hg (e' ▸ hE))
      have hoff : (L.setIfInBounds i true).getD j true = false := by
        rw [getD_set_ne true (Ne.symm e)]
        exact hj.off
      have hfree : ∀ k o, (newO s obj).h.get k = some o → (ν.set s.n g) k ≠ some g' := fun k o hk' => by
        simp only [newO] at hk'
        rw [Tr.get_put] at hk'
        split at hk'
        · rename_i e'
          rw [e', Nm.set_same]
          intro e2
          injection e2 with e2
          exact hne e2.symm
        · rename_i e'
          simp only [Nm.set, if_neg e']
          exact hj.free k o hk'
      obtain ⟨oj, dj, OJ, Vj, q1, q2, q3, q4, q5, q6, q7, q8, q9, q10⟩ := hj.ex
      refine ⟨⟨oj, dj, OJ, Vj, q1, q2, q3, ?_, q5, q6, fun e he hb => getD_set_true (q7 e he hb), q8, q9, q10⟩, hoff, hj.old, hj.zero, hfree⟩
      rw [h2]
      show (T.put d _).get dj = none
      have hne : dj ≠ d := fun e' => h.dst j i g' g oj oi dj hg hE e q1 hi q2 (by rw [e']; exact h2)
      rw [Tr.get_put, if_neg hne]
      exact q4
  · by_cases e : j = i
    · simp only [if_pos e] at hj
      cases hj
    · by_cases e' : k = i
      · simp only [if_pos e'] at hk
        cases hk
      · simp only [if_neg e, if_neg e'] at hj hk
        exact h.inj j k g' hj hk
  · by_cases e : j = i
    · simp only [if_pos e] at hj
      cases hj
    · by_cases e' : k = i
      · simp only [if_pos e'] at hk
        cases hk
      · simp only [if_neg e, if_neg e'] at hj hk
        exact h.dst j k g1 g2 oj ok d' hj hk hne hoj hok hdj
  · rw [h2]
    refine ⟨h.F.size, fun k u hu => ?_⟩
    simp only [putD] at hu
    rw [Tr.get_put] at hu
    split at hu
    · rename_i e
      injection hu with hu
      subst e hu
      exact ⟨_, hdv, h10⟩
    · exact (h.F.mono hle).slots k u hu
end

end Go.Proofs.YtlijlapkhimaoaaGreatDoor
