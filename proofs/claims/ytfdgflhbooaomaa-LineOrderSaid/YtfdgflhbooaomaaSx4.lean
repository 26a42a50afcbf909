/- The symbolic machine, 4: the rules that a walk is made of. No program in sight. -/
import Derived.Test.YtfdgflhbooaomaaSx3
import Derived.Laws.Sem
namespace Go.Proofs.Ytfdgflhbooaomaa
open Go.RowKit

/-- the results, out of the frame and the blocks -/
def resT (P : Program) (T : List (Nat × Value)) (H : List Bk) : List ResultVar → List Nat → Option (List Value × List Value × List Value)
  | [], _ => some ([], [], [])
  | .tmp t :: rs, hs =>
    match look T t, resT P T H rs hs with
    | some v, some (vs, l, r) => some (v :: vs, l, r)
    | _, _ => none
  | .cell x t :: rs, hs =>
    match H[hs.headD 0]?, look T x, resT P T H rs hs.tail with
    | some b, some (.pointer (some ad)), some (vs, l, r) =>
      match loadOf P t b.cs ad.off with
      | some v => some (v :: vs, .pointer (some ad) :: l, .pointer (some ⟨b.g, ad.off, none⟩) :: r)
      | none => none
    | _, _, _ => none

def oneOrTuple : List Value → Value
  | [v] => v
  | vs => .tuple vs.toArray

def resOne (tmps : Array Value) : ResultVar → Sem Value
  | .tmp t => pure (tmps.getD t undef)
  | .cell x t => do loadVar t (← asAddr (tmps.getD x undef))

section
variable {P : Program} {c : Code} {Q : Exit → Act → World → Prop} {D : Nat → Prop} {w0 w : World} {L0 : List Nat} {H : List Bk} {F : Fc} {N : Nat} {T : List (Nat × Value)} {a : Act}

theorem resT_sound (hI : Inv D w0 L0 H F w) (hT : Knows N T a) : ∀ (rs : List ResultVar) (hs : List Nat) {vs l r : List Value}, resT P T H rs hs = some (vs, l, r) → l = r →
    (rs.mapM (resOne a.tmps)).run P w = .ok vs w
  | [], hs, vs, l, r, h, _ => by
    simp only [resT, Option.some.injEq, Prod.mk.injEq] at h
    obtain ⟨rfl, _, _⟩ := h
    rfl
  | .tmp t :: rs, hs, vs, l, r, h, hlr => by
    unfold resT at h
    split at h
    · rename_i v vs' l' r' hv hr
      simp only [Option.some.injEq, Prod.mk.injEq] at h
      obtain ⟨rfl, rfl, rfl⟩ := h
      have ih := resT_sound hI hT rs hs hr hlr
      have e : a.tmps.getD t undef = v := by have := hT.slots t v hv; simp [this]
      rw [List.mapM_cons]
      show (Sem.bind (Sem.pure _) _).run P w = _
      simp only [Sem.bind]
      show (Sem.bind _ _).run P w = _
      rw [run_bind, ih, e]
      rfl
    · cases h
  | .cell x t :: rs, hs, vs, l, r, h, hlr => by
    unfold resT at h
    split at h
    · rename_i b ad vs' l' r' hb hx hr
      split at h
      · rename_i v hv
        simp only [Option.some.injEq, Prod.mk.injEq] at h
        obtain ⟨rfl, rfl, rfl⟩ := h
        injection hlr with h1 h2
        have ih := resT_sound hI hT rs hs.tail hr h2
        have e : a.tmps.getD x undef = .pointer (some ad) := by have := hT.slots x _ hx; simp [this]
        rw [List.mapM_cons]
        simp only [resOne, e]
        show (Sem.bind (Sem.bind (Sem.pure ad) fun y => loadVar t y) _).run P w = _
        rw [run_bind]
        simp only [Sem.bind]
        simp only [Value.pointer.injEq, Option.some.injEq] at h1
        have := run_loadVar (P := P) (hI.has b (List.mem_of_getElem? hb)) hv
        rw [← h1] at this
        rw [this]
        show (Sem.bind _ _).run P w = _
        rw [run_bind, ih]
        rfl
      · cases h
    · cases h

theorem results_run {fn : Func} (hI : Inv D w0 L0 H F w) (hT : Knows N T a) {rs : List ResultVar} (hrs : fn.results = rs.toArray) {hs : List Nat} {vs l : List Value} (h : resT P T H rs hs = some (vs, l, l)) : (results fn a.tmps).run P w = .ok (oneOrTuple vs) w := by
  have h1 := resT_sound hI hT rs hs h rfl
  show (Sem.bind (Array.mapM (resOne a.tmps) fn.results) _).run P w = _
  rw [hrs, List.mapM_toArray, run_bind]
  have hm : ∀ (s : Sem (List Value)), s.run P w = .ok vs w → (Functor.map List.toArray s).run P w = .ok vs.toArray w := fun s hs => by
    rw [← bind_pure_comp]
    show (Sem.bind s _).run P w = _
    rw [run_bind, hs]
    rfl
  rw [hm _ h1]
  show Result.ok _ w = _
  congr 1
  match vs with
  | [] => rfl
  | [v] => rfl
  | v :: u :: vs => simp [oneOrTuple]
end

/-! ### The rules -/
section
variable {P : Program} {c : Code} {Q : Exit → Act → World → Prop} {D : Nat → Prop} {w0 w : World} {L0 : List Nat} {H : List Bk} {F : Fc} {N : Nat} {T : List (Nat × Value)} {a : Act} {k : List It}

/-- what is still wanted: slots, blocks -/
def restr (live kb : List Nat) (s : Cf) : Cf :=
  { s with T := live.filterMap (fun i => (look s.T i).map fun v => (i, v)), H := kb.filterMap (s.H[·]?) }

theorem look_live {T : List (Nat × Value)} : ∀ (live : List Nat) (i : Nat) (v : Value), look (live.filterMap fun i => (look T i).map fun v => (i, v)) i = some v → look T i = some v
  | [], i, v, h => by simp [look] at h
  | j :: live, i, v, h => by
    rw [List.filterMap_cons] at h
    cases hj : look T j with
    | none =>
      rw [hj] at h
      exact look_live live i v h
    | some u =>
      rw [hj] at h
      simp only [Option.map_some, look] at h
      cases hb : Nat.beq j i with
      | true =>
        rw [hb] at h
        have e := Nat.eq_of_beq_eq_true hb
        injection h with h
        subst h e
        exact hj
      | false =>
        rw [hb] at h
        exact look_live live i v h

theorem Inv.sub {H' : List Bk} (h : Inv D w0 L0 H F w) (hs : ∀ b ∈ H', b ∈ H) (hn : (gs H').Nodup) : Inv D w0 L0 H' F w :=
  h.next (Keep.refl _ _) (fun b hb => h.has b (hs b hb)) hn (fun g hg => by
    obtain ⟨b, hb, rfl⟩ := List.mem_map.1 hg
    exact .inl (List.mem_map.2 ⟨b, hs b hb, rfl⟩))

theorem nodup_pick {l : List Nat} (hl : l.Nodup) : ∀ (kb : List Nat), kb.Nodup → (kb.filterMap (l[·]?)).Nodup
  | [], _ => by simp
  | i :: kb, h => by
    rw [List.nodup_cons] at h
    have ih := nodup_pick hl kb h.2
    rw [List.filterMap_cons]
    cases hi : l[i]? with
    | none => exact ih
    | some x =>
      rw [List.nodup_cons]
      refine ⟨fun hm => ?_, ih⟩
      obtain ⟨j, hj, hx⟩ := List.mem_filterMap.1 hm
      have : i = j := (List.getElem?_inj (List.getElem?_eq_some_iff.1 hi).1 hl).1 (by rw [hi, hx])
      exact h.1 (this ▸ hj)

theorem gs_pick (H : List Bk) : ∀ (kb : List Nat), gs (kb.filterMap (H[·]?)) = kb.filterMap ((gs H)[·]?)
  | [] => rfl
  | i :: kb => by
    have ih := gs_pick H kb
    rw [List.filterMap_cons, List.filterMap_cons]
    have e : (gs H)[i]? = (H[i]?).map (·.g) := by simp [gs]
    rw [e]
    cases H[i]? with
    | none => exact ih
    | some b =>
      show b.g :: gs _ = b.g :: _
      rw [ih]

def nodupB : List Nat → Bool
  | [] => true
  | x :: l => (l.all fun y => !Nat.beq x y) && nodupB l
theorem nodupB_spec : ∀ {l : List Nat}, nodupB l = true → l.Nodup
  | [], _ => by simp
  | x :: l, h => by
    simp only [nodupB, Bool.and_eq_true, List.all_eq_true, Bool.not_eq_true'] at h
    rw [List.nodup_cons]
    exact ⟨fun hm => by have := h.1 x hm; simp at this, nodupB_spec h.2⟩

/-- n steps, with m new blocks; then the slots 'live' and the blocks 'kb' are wanted -/
theorem go_ (n m : Nat) (hs live kb : List Nat) (hkb : nodupB kb = true) (hI : Inv D w0 L0 H F w) (hT : Knows N T a)
    (h : ∀ g : List Nat, g.length = m → ∃ T' H' k' L ob, (steps P F.E c N n ⟨T, H, k, hs, g, [], [], []⟩).map (restr live kb) = some ⟨T', H', k', [], [], L, L, ob⟩ ∧ AllP ob ∧ ∀ a' w', Inv D w0 L0 H' F w' → Knows N T' a' → At P c Q k' a' w') : At P c Q k a w := by
  obtain ⟨T', H', k', L, ob, h1, hob, h2⟩ := h (List.range' w.heap.size m) (by simp)
  rw [Option.map_eq_some_iff] at h1
  obtain ⟨s', h1, h3⟩ := h1
  obtain ⟨sT, sH, sk, shs, sfr, sL, sR, sob⟩ := s'
  simp only [restr, Cf.mk.injEq] at h3
  obtain ⟨rfl, rfl, rfl, rfl, rfl, rfl, rfl, rfl⟩ := h3
  refine steps_sound n (s := ⟨T, H, k, hs, List.range' w.heap.size m, [], [], []⟩) hI hT rfl h1 rfl rfl hob fun a' w' _ i1 i2 _ => h2 a' w' (i1.sub (fun b hb => ?_) ?_) (i2.sub (look_live live))
  · obtain ⟨i, _, hi⟩ := List.mem_filterMap.1 hb
    exact List.mem_of_getElem? hi
  · rw [gs_pick]
    exact nodup_pick i1.nodup kb (nodupB_spec hkb)

/-- fewer slots are known -/
theorem less (T' : List (Nat × Value)) (hT : Knows N T a) (hs : ∀ p ∈ T', look T p.1 = some p.2) : Knows N T' a :=
  hT.sub fun i v hv => by
    induction T' with
    | nil => simp [look] at hv
    | cons p T' ih =>
      unfold look at hv
      cases hb : Nat.beq p.1 i with
      | true =>
        rw [hb] at hv
        have e := Nat.eq_of_beq_eq_true hb
        injection hv with hv
        subst hv e
        exact hs p (by simp)
      | false =>
        rw [hb] at hv
        exact ih (fun q hq => hs q (by simp [hq])) hv

theorem itPost_ret (hk : (k.all fun it => Nat.blt it.tag 3) = true) (h : Q .ret a w) : itPost P c Q k .ret a w := by
  induction k with
  | nil => exact h
  | cons it k ih =>
    obtain ⟨tag, p, i⟩ := it
    simp only [List.all_cons, Bool.and_eq_true] at hk
    match tag, hk.1 with
    | 0, _ => exact ih hk.2
    | 1, _ => exact ih hk.2
    | 2, _ => exact ih hk.2
    | n + 3, h3 => exact absurd h3 (by simp)

/-- the function returns -/
theorem ret_ {fn : Func} {R : Ending → World → Prop} {p : List Nat} {i : Nat} (hs : List Nat) {rs : List ResultVar} {vs l : List Value} (hI : Inv D w0 L0 H F w) (hT : Knows N T a) (hc : codeAt c p = .ret) (hk : (k.all fun it => Nat.blt it.tag 3) = true) (hrs : fn.results = rs.toArray)
    (h : resT P T H rs hs = some (vs, l, l)) (hR : R (.returned (oneOrTuple vs)) w) : At P c (bodyPost P fn R) (⟨0, p, i⟩ :: k) a w := by
  show (codeAt c p).wp P _ a w
  rw [hc]
  exact wp_ret (itPost_ret hk ⟨hT.defers, _, results_run hI hT hrs h, hR⟩)
/-- the end is a return, too -/
theorem end_ {fn : Func} {R : Ending → World → Prop} (hs : List Nat) {rs : List ResultVar} {vs l : List Value} (hI : Inv D w0 L0 H F w) (hT : Knows N T a) (hrs : fn.results = rs.toArray)
    (h : resT P T H rs hs = some (vs, l, l)) (hR : R (.returned (oneOrTuple vs)) w) : At P c (bodyPost P fn R) [] a w := ⟨hT.defers, _, results_run hI hT hrs h, hR⟩

/-- a test -/
theorem cond_ {p : List Nat} {i : Nat} {x : Operand} {y z : Code} {b : Bool} (hT : Knows N T a) (hc : codeAt c p = .cond x y z) (hv : evT T x = some (.bool b))
    (h1 : b = true → At P c Q (⟨0, p ++ [0], 0⟩ :: k) a w) (h2 : b = false → At P c Q (⟨0, p ++ [1], 0⟩ :: k) a w) : At P c Q (⟨0, p, i⟩ :: k) a w := by
  show (codeAt c p).wp P _ a w
  have hev : a.eval x = .bool b := by rw [hT.eval (by rw [hv]; rfl)]; unfold rho; rw [hv]; rfl
  rw [hc]
  cases b with
  | true =>
    refine wp_cond_true hev ?_
    have := h1 rfl
    change (codeAt c (p ++ [0])).wp P (itPost P c Q k) a w at this
    rw [codeAt_append, hc] at this
    exact this
  | false =>
    refine wp_cond_false hev ?_
    have := h2 rfl
    change (codeAt c (p ++ [1])).wp P (itPost P c Q k) a w at this
    rw [codeAt_append, hc] at this
    exact this

/-- a call of a function, in a row of operations -/
theorem call_ {p : List Nat} {i : Nat} {o : Oper} {f : FuncId} {vs : Array Value} {R : Ending → World → Prop} (hT : Knows N T a) (ho : (opsAt c p)[i]? = some o) (hw : wantedT (opsAt c p).toArray T o = some true) (hk : (knowsAll T o.op && okDst N o.dst && !isSel o.op) = true)
    (he : pureRun P (execOp (rho T) o) = some (.enter f vs)) (hR : Calls P f vs w R) (hp : ∀ e w', R e w' → ∃ v, e = .returned v ∧ ∀ a', Knows N (putT T o.dst v) a' → At P c Q (⟨1, p, i + 1⟩ :: k) a' w') : At P c Q (⟨1, p, i⟩ :: k) a w := by
  show wpList P (opsAt c p).toArray (itPost P c Q k) ((opsAt c p).drop i) a w
  obtain ⟨hlt, rfl⟩ := List.getElem?_eq_some_iff.1 ho
  rw [List.drop_eq_getElem_cons hlt]
  refine wpList_step fun K hK => ?_
  rw [hT.wanted hw]
  simp only [if_true]
  simp only [Bool.and_eq_true, Bool.not_eq_true'] at hk
  obtain ⟨⟨hk, hd⟩, hs⟩ := hk
  unfold Oper.wp
  rw [execOp_congr _ (fun cs b e => by rw [e] at hs; simp [isSel] at hs) (hT.evals hk), pureRun_sound _ he w]
  refine hR.mono fun e w' hr => ?_
  obtain ⟨v, rfl, h⟩ := hp e w' hr
  exact hK _ _ (h _ (hT.put hd v))

def argsT : List Value → Nat → List (Nat × Value)
  | [], _ => []
  | v :: vs, i => (i, v) :: argsT vs (i + 1)
theorem look_args : ∀ (vs : List Value) (i j : Nat) (v : Value), look (argsT vs i) j = some v → i ≤ j ∧ vs[j - i]? = some v
  | [], i, j, v, h => by simp [argsT, look] at h
  | u :: vs, i, j, v, h => by
    simp only [argsT, look] at h
    cases hb : Nat.beq i j with
    | true =>
      rw [hb] at h
      have e := Nat.eq_of_beq_eq_true hb
      subst e
      simpa using h
    | false =>
      rw [hb] at h
      have hne : i ≠ j := fun e => by subst e; simp at hb
      obtain ⟨h1, h2⟩ := look_args vs (i + 1) j v h
      refine ⟨by omega, ?_⟩
      have : j - i = (j - (i + 1)) + 1 := by omega
      rw [this]
      simpa using h2

/-- the call begins -/
theorem enter_ {f : FuncId} {fn : Func} {args : Array Value} {R : Ending → World → Prop} (N : Nat) (hf : P.funcs[f]? = some fn) (hb : fn.body = some c) (hN : fn.ntmps = N) (hl : args.size ≤ N)
    (h : ∀ a, Knows N (argsT args.toList 0) a → At P c (bodyPost P fn R) [⟨0, [], 0⟩] a w) : Calls P f args w R := by
  refine calls_of_wp hf hb (h _ ⟨by simp [hN]; omega, rfl, fun i v hv => ?_⟩)
  obtain ⟨_, h1⟩ := look_args _ _ _ _ hv
  simp only [Nat.sub_zero, Array.getElem?_toList] at h1
  have hlt : i < args.size := (Array.getElem?_eq_some_iff.1 h1).1
  simp only []
  rw [Array.getElem?_append_left hlt]
  exact h1
end

end Go.Proofs.Ytfdgflhbooaomaa
