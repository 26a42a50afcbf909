/- The evaluator, 16b: known calls, fitted to other names and other data. No program in sight. -/
import Derived.Test.YtlijlapkhimaoaaGreatDoorE16
namespace Go.Proofs.YtlijlapkhimaoaaGreatDoor
open Go Go.RowKit

theorem mapO_mem' {α β : Type} {f : α → Option β} : ∀ {l : List α} {m : List β}, mapO f l = some m → (∀ x ∈ l, ∃ y ∈ m, f x = some y)
  | [], _, _, x, hx => by cases hx
  | a :: l, m, h, x, hx => by
    simp only [mapO] at h
    split at h
    · cases h
    · rename_i y hy
      split at h
      · cases h
      · rename_i r hr
        injection h with h
        subst h
        rcases List.mem_cons.1 hx with rfl | hx
        · exact ⟨y, List.mem_cons_self .., hy⟩
        · obtain ⟨z, h1, h2⟩ := mapO_mem' hr x hx
          exact ⟨z, List.mem_cons_of_mem _ h1, h2⟩

section
variable {φ : Fit} {np na : Nat} {νp νa : Nm}
theorem mkSym_den (ν : Nm) (k : IntKind) (t : Tm) : den ν (mkSym k t) = den ν (.sym k t) := by
  cases t <;> first | rfl | simp [mkSym, den, denT]
theorem mkSymB_den (ν : Nm) (t : Tm) : den ν (mkSymB t) = den ν (.symB t) := by
  cases t <;> first | rfl | skip
  rename_i n
  simp only [mkSymB, den, denT, Option.some.injEq, Value.bool.injEq]
  cases hb : intEq n 0 with
  | true => rw [intEq_eq hb]; rfl
  | false =>
    have : n ≠ 0 := fun e => by subst e; cases hb
    simp [this]

/-! what holds there holds here -/
mutual
theorem inT_to (hx : ∀ j u d, inX φ j = some u → νp.x j = some d → denT νa u = some d) (hu : νp.u = νa.u) : ∀ {t u : Tm} {d : Dat}, inT φ t = some u → denT νp t = some d → denT νa u = some d
  | .c n, u, d, h, hd => by
    simp only [inT, Option.some.injEq] at h
    subst h
    exact hd
  | .x j, u, d, h, hd => hx j u d (by simpa [inT] using h) (by simpa [denT] using hd)
  | .bin o k a b, u, d, h, hd => by
    simp only [inT] at h
    split at h
    · rename_i a' b' ha hb
      injection h with h
      subst h
      simp only [denT] at hd ⊢
      cases h1 : denT νp a with
      | none => rw [h1] at hd; cases hd
      | some x =>
        cases h2 : denT νp b with
        | none => rw [h1, h2] at hd; cases x <;> cases hd
        | some y => rw [h1, h2] at hd; rw [inT_to hx hu ha h1, inT_to hx hu hb h2]; exact hd
    · cases h
  | .conv k a, u, d, h, hd => by
    simp only [inT] at h
    split at h
    · rename_i a' ha
      injection h with h
      subst h
      simp only [denT] at hd ⊢
      cases h1 : denT νp a with
      | none => rw [h1] at hd; cases hd
      | some x => rw [h1] at hd; rw [inT_to hx hu ha h1]; exact hd
    · cases h
  | .f o l, u, d, h, hd => by
    simp only [inT] at h
    split at h
    · rename_i a' ha
      injection h with h
      subst h
      simp only [denT] at hd ⊢
      cases h1 : denTs νp l with
      | none => rw [h1] at hd; cases hd
      | some x => rw [h1] at hd; rw [inTs_to hx hu ha h1, ← hu]; exact hd
    · cases h
theorem inTs_to (hx : ∀ j u d, inX φ j = some u → νp.x j = some d → denT νa u = some d) (hu : νp.u = νa.u) : ∀ {t u : List Tm} {d : List Dat}, inTs φ t = some u → denTs νp t = some d → denTs νa u = some d
  | [], u, d, h, hd => by
    simp only [inTs, Option.some.injEq] at h
    subst h
    exact hd
  | t :: l, u, d, h, hd => by
    simp only [inTs] at h
    split at h
    · rename_i a' b' ha hb
      injection h with h
      subst h
      simp only [denTs] at hd ⊢
      cases h1 : denT νp t with
      | none => rw [h1] at hd; cases hd
      | some x =>
        cases h2 : denTs νp l with
        | none => rw [h1, h2] at hd; cases hd
        | some y => rw [h1, h2] at hd; rw [inT_to hx hu ha h1, inTs_to hx hu hb h2]; exact hd
    · cases h
end
mutual
theorem inT_from (hx : ∀ j u d, inX φ j = some u → denT νa u = some d → νp.x j = some d) (hu : νp.u = νa.u) : ∀ {t u : Tm} {d : Dat}, inT φ t = some u → denT νa u = some d → denT νp t = some d
  | .c n, u, d, h, hd => by
    simp only [inT, Option.some.injEq] at h
    subst h
    exact hd
  | .x j, u, d, h, hd => by
    simp only [denT]
    exact hx j u d (by simpa [inT] using h) hd
  | .bin o k a b, u, d, h, hd => by
    simp only [inT] at h
    split at h
    · rename_i a' b' ha hb
      injection h with h
      subst h
      simp only [denT] at hd ⊢
      cases h1 : denT νa a' with
      | none => rw [h1] at hd; cases hd
      | some x =>
        cases h2 : denT νa b' with
        | none => rw [h1, h2] at hd; cases x <;> cases hd
        | some y => rw [h1, h2] at hd; rw [inT_from hx hu ha h1, inT_from hx hu hb h2]; exact hd
    · cases h
  | .conv k a, u, d, h, hd => by
    simp only [inT] at h
    split at h
    · rename_i a' ha
      injection h with h
      subst h
      simp only [denT] at hd ⊢
      cases h1 : denT νa a' with
      | none => rw [h1] at hd; cases hd
      | some x => rw [h1] at hd; rw [inT_from hx hu ha h1]; exact hd
    · cases h
  | .f o l, u, d, h, hd => by
    simp only [inT] at h
    split at h
    · rename_i a' ha
      injection h with h
      subst h
      simp only [denT] at hd ⊢
      cases h1 : denTs νa a' with
      | none => rw [h1] at hd; cases hd
      | some x => rw [h1] at hd; rw [inTs_from hx hu ha h1, hu]; exact hd
    · cases h
theorem inTs_from (hx : ∀ j u d, inX φ j = some u → denT νa u = some d → νp.x j = some d) (hu : νp.u = νa.u) : ∀ {t u : List Tm} {d : List Dat}, inTs φ t = some u → denTs νa u = some d → denTs νp t = some d
  | [], u, d, h, hd => by
    simp only [inTs, Option.some.injEq] at h
    subst h
    exact hd
  | t :: l, u, d, h, hd => by
    simp only [inTs] at h
    split at h
    · rename_i a' b' ha hb
      injection h with h
      subst h
      simp only [denTs] at hd ⊢
      cases h1 : denT νa a' with
      | none => rw [h1] at hd; cases hd
      | some x =>
        cases h2 : denTs νa b' with
        | none => rw [h1, h2] at hd; cases hd
        | some y => rw [h1, h2] at hd; rw [inT_from hx hu ha h1, inTs_from hx hu hb h2]; exact hd
    · cases h
end
/-- from there to here -/
structure To (φ : Fit) (np na : Nat) (νp νa : Nm) : Prop where
  f : ∀ j i g, inN φ np na j = some i → νp.f j = some g → νa.f i = some g
  x : ∀ j u d, inX φ j = some u → νp.x j = some d → denT νa u = some d
  v : ∀ j v V, φ.v.get j = some v → νp.x j = some (.v V) → den νa v = some V
  u : νp.u = νa.u
/-- from here to there -/
structure From (φ : Fit) (np na : Nat) (νp νa : Nm) : Prop where
  f : ∀ j i g, inN φ np na j = some i → νa.f i = some g → νp.f j = some g
  x : ∀ j u d, inX φ j = some u → denT νa u = some d → νp.x j = some d
  v : ∀ j v V, φ.v.get j = some v → den νa v = some V → νp.x j = some (.v V)
  u : νp.u = νa.u
theorem inC_to (H : To φ np na νp νa) {c d : Cap} {n : Nat} (h : inC φ np na c = some d) (hd : capOf νp c = some n) : capOf νa d = some n := by
  cases c with
  | k m => simp only [inC, Option.some.injEq] at h; subst h; exact hd
  | u c m =>
    simp only [inC] at h
    split at h
    · rename_i i hi
      injection h with h
      subst h
      simp only [capOf] at hd ⊢
      cases hc : νp.f c with
      | none => rw [hc] at hd; cases hd
      | some g => rw [hc] at hd; rw [H.f c i g hi hc]; exact hd
    · cases h
theorem inC_from (H : From φ np na νp νa) {c d : Cap} {n : Nat} (h : inC φ np na c = some d) (hd : capOf νa d = some n) : capOf νp c = some n := by
  cases c with
  | k m => simp only [inC, Option.some.injEq] at h; subst h; exact hd
  | u c m =>
    simp only [inC] at h
    split at h
    · rename_i i hi
      injection h with h
      subst h
      simp only [capOf] at hd ⊢
      cases hc : νa.f i with
      | none => rw [hc] at hd; cases hd
      | some g => rw [hc] at hd; rw [H.f c i g hi hc]; exact hd
    · cases h
theorem inFn_to (H : To φ np na νp νa) {c d : AFn} {n : Fn} (h : inFn φ np na c = some d) (hd : fnOf νp c = some n) : fnOf νa d = some n := by
  cases c with
  | func m => simp only [inFn, Option.some.injEq] at h; subst h; exact hd
  | yield c =>
    simp only [inFn] at h
    split at h
    · rename_i i hi
      injection h with h
      subst h
      simp only [fnOf] at hd ⊢
      cases hc : νp.f c with
      | none => rw [hc] at hd; cases hd
      | some g => rw [hc] at hd; rw [H.f c i g hi hc]; exact hd
    · cases h
theorem inFn_from (H : From φ np na νp νa) {c d : AFn} {n : Fn} (h : inFn φ np na c = some d) (hd : fnOf νa d = some n) : fnOf νp c = some n := by
  cases c with
  | func m => simp only [inFn, Option.some.injEq] at h; subst h; exact hd
  | yield c =>
    simp only [inFn] at h
    split at h
    · rename_i i hi
      injection h with h
      subst h
      simp only [fnOf] at hd ⊢
      cases hc : νa.f i with
      | none => rw [hc] at hd; cases hd
      | some g => rw [hc] at hd; rw [H.f c i g hi hc]; exact hd
    · cases h
mutual
theorem inV_to (H : To φ np na νp νa) : ∀ {p a : AV} {V : Value}, inV φ np na p = some a → den νp p = some V → den νa a = some V
  | .bool b, a, V, h, hd => by
    simp only [inV, Option.some.injEq] at h
    subst h
    exact hd
  | .int k n, a, V, h, hd => by
    simp only [inV, Option.some.injEq] at h
    subst h
    exact hd
  | .str s, a, V, h, hd => by
    simp only [inV, Option.some.injEq] at h
    subst h
    exact hd
  | .nptr, a, V, h, hd => by
    simp only [inV, Option.some.injEq] at h
    subst h
    exact hd
  | .nslice, a, V, h, hd => by
    simp only [inV, Option.some.injEq] at h
    subst h
    exact hd
  | .nmap, a, V, h, hd => by
    simp only [inV, Option.some.injEq] at h
    subst h
    exact hd
  | .nfunc, a, V, h, hd => by
    simp only [inV, Option.some.injEq] at h
    subst h
    exact hd
  | .niface, a, V, h, hd => by
    simp only [inV, Option.some.injEq] at h
    subst h
    exact hd
  | .glob g o, a, V, h, hd => by
    simp only [inV, Option.some.injEq] at h
    subst h
    exact hd
  | .ptr j off, a, V, h, hd => by
    simp only [inV] at h
    split at h
    · rename_i i hi
      injection h with h
      subst h
      simp only [den] at hd ⊢
      cases hc : νp.f j with
      | none => rw [hc] at hd; cases hd
      | some g => rw [hc] at hd; rw [H.f j i g hi hc]; exact hd
    · cases h
  | .slice j off n c, a, V, h, hd => by
    simp only [inV] at h
    split at h
    · rename_i i c' hi hcc
      injection h with h
      subst h
      simp only [den] at hd ⊢
      cases hc : νp.f j with
      | none => rw [hc] at hd; cases hd
      | some g =>
        rw [hc] at hd
        cases hk : capOf νp c with
        | none => rw [hk] at hd; cases hd
        | some m => rw [hk] at hd; rw [H.f j i g hi hc, inC_to H hcc hk]; exact hd
    · cases h
  | .map j, a, V, h, hd => by
    simp only [inV] at h
    split at h
    · rename_i i hi
      injection h with h
      subst h
      simp only [den] at hd ⊢
      cases hc : νp.f j with
      | none => rw [hc] at hd; cases hd
      | some g => rw [hc] at hd; rw [H.f j i g hi hc]; exact hd
    · cases h
  | .func f x y, a, V, h, hd => by
    simp only [inV] at h
    split at h
    · rename_i f' x' y' hf hx hy
      injection h with h
      subst h
      simp only [den] at hd ⊢
      cases h1 : fnOf νp f with
      | none => rw [h1] at hd; cases hd
      | some g =>
        rw [h1] at hd
        cases h2 : denL νp x with
        | none => rw [h2] at hd; cases hd
        | some A =>
          rw [h2] at hd
          cases h3 : denL νp y with
          | none => rw [h3] at hd; cases hd
          | some B => rw [h3] at hd; rw [inFn_to H hf h1, inL_to H hx h2, inL_to H hy h3]; exact hd
    · cases h
  | .iface t v, a, V, h, hd => by
    simp only [inV] at h
    split at h
    · rename_i v' hv
      injection h with h
      subst h
      simp only [den] at hd ⊢
      cases h1 : den νp v with
      | none => rw [h1] at hd; cases hd
      | some U => rw [h1] at hd; rw [inV_to H hv h1]; exact hd
    · cases h
  | .agg l, a, V, h, hd => by
    simp only [inV] at h
    split at h
    · rename_i l' hl
      injection h with h
      subst h
      simp only [den] at hd ⊢
      cases h1 : denL νp l with
      | none => rw [h1] at hd; cases hd
      | some U => rw [h1] at hd; rw [inL_to H hl h1]; exact hd
    · cases h
  | .tup l, a, V, h, hd => by
    simp only [inV] at h
    split at h
    · rename_i l' hl
      injection h with h
      subst h
      simp only [den] at hd ⊢
      cases h1 : denL νp l with
      | none => rw [h1] at hd; cases hd
      | some U => rw [h1] at hd; rw [inL_to H hl h1]; exact hd
    · cases h
  | .ext j, a, V, h, hd => by
    simp only [inV] at h
    split at h
    · rename_i v hv
      split at h
      · injection h with h
        subst h
        simp only [den] at hd
        split at hd
        · rename_i U hU
          split at hd
          · injection hd with hd
            subst hd
            exact H.v j _ _ hv hU
          · cases hd
        · cases hd
      · cases h
    · cases h
  | .sym k t, a, V, h, hd => by
    simp only [inV] at h
    split at h
    · rename_i u hu
      injection h with h
      subst h
      rw [mkSym_den]
      simp only [den] at hd ⊢
      cases h1 : denT νp t with
      | none => rw [h1] at hd; cases hd
      | some d => rw [h1] at hd; rw [inT_to H.x H.u hu h1]; exact hd
    · cases h
  | .symB t, a, V, h, hd => by
    simp only [inV] at h
    split at h
    · rename_i u hu
      injection h with h
      subst h
      rw [mkSymB_den]
      simp only [den] at hd ⊢
      cases h1 : denT νp t with
      | none => rw [h1] at hd; cases hd
      | some d => rw [h1] at hd; rw [inT_to H.x H.u hu h1]; exact hd
    · cases h
  | .tail j x y l c m, a, V, h, hd => by
    simp only [inV] at h
    split at h
    · rename_i i c' hi hcc
      injection h with h
      subst h
      simp only [den] at hd ⊢
      cases hc : νp.f j with
      | none => rw [hc] at hd; cases hd
      | some g =>
        rw [hc] at hd
        cases hk : capOf νp (.u c m) with
        | none => rw [hk] at hd; cases hd
        | some q => rw [hk] at hd; rw [H.f j i g hi hc, inC_to (c := .u c m) (d := .u c' m) H (by simp only [inC, hcc]) hk]; exact hd
    · cases h
theorem inL_to (H : To φ np na νp νa) : ∀ {p a : List AV} {V : List Value}, inL φ np na p = some a → denL νp p = some V → denL νa a = some V
  | [], a, V, h, hd => by
    simp only [inL, Option.some.injEq] at h
    subst h
    exact hd
  | v :: l, a, V, h, hd => by
    simp only [inL] at h
    split at h
    · rename_i v' l' hv hl
      injection h with h
      subst h
      obtain ⟨U, R, h1, h2, rfl⟩ := denL_cons hd
      exact denL_mk (inV_to H hv h1) (inL_to H hl h2)
    · cases h
end
theorem inEs_to (H : To φ np na νp νa) : ∀ {p a : List (AV × AV × Nat)} {l : List MapEntry}, inEs φ np na p = some a → All2 (ERel νp) p l → All2 (ERel νa) a l
  | [], a, l, h, k => by
    simp only [inEs, Option.some.injEq] at h
    subst h
    cases l with
    | nil => trivial
    | cons _ _ => exact k.elim
  | (x, y, c) :: p, a, l, h, k => by
    simp only [inEs] at h
    split at h
    · rename_i x' y' p' hx hy hp
      injection h with h
      subst h
      cases l with
      | nil => exact k.elim
      | cons e l => exact ⟨⟨inV_to H hx k.1.1, inV_to H hy k.1.2.1, k.1.2.2⟩, inEs_to H hp k.2⟩
    · cases h
theorem inO_to {P : Program} (H : To φ np na νp νa) {p a : AObj} {obj : Obj} (h : inO φ np na p = some a) (k : ORel P νp p obj) : ORel P νa a obj := by
  cases p with
  | cells l t c =>
    cases c with
    | none =>
      simp only [inO] at h
      split at h
      · rename_i l' hl
        injection h with h
        subst h
        cases obj <;> simp only [ORel] at k ⊢ <;> try exact k.elim
        obtain ⟨k1, k2, L, R, k3, k4, k5⟩ := k
        exact ⟨k1, k2, L, R, inL_to H hl k3, k4, k5⟩
      · cases h
    | some c =>
      simp only [inO] at h
      split at h
      · rename_i l' c' hl hc
        injection h with h
        subst h
        cases obj <;> simp only [ORel] at k ⊢ <;> try exact k.elim
        obtain ⟨k1, k2, L, R, k3, k4, cap, i, k6, k7, k8⟩ := k
        exact ⟨k1, k2, L, R, inL_to H hl k3, k4, cap, i, H.f _ _ _ hc k6, k7, k8⟩
      · cases h
  | map es c =>
    simp only [inO] at h
    split at h
    · rename_i es' hes
      injection h with h
      subst h
      cases obj <;> simp only [ORel] at k ⊢ <;> try exact k.elim
      exact ⟨k.1, inEs_to H hes k.2⟩
    · cases h
  | iter m x l y =>
    cases m with
    | none =>
      simp only [inO, Option.some.injEq] at h
      subst h
      cases obj <;> simp only [ORel] at k ⊢ <;> try exact k.elim
      exact k
    | some m =>
      simp only [inO] at h
      split at h
      · rename_i m' hm
        injection h with h
        subst h
        cases obj <;> simp only [ORel] at k ⊢ <;> try exact k.elim
        obtain ⟨⟨g, g1, g2⟩, k2⟩ := k
        exact ⟨⟨g, H.f _ _ _ hm g1, g2⟩, k2⟩
      · cases h
  | loop => simp only [inO] at h; cases h
  | defr =>
    simp only [inO, Option.some.injEq] at h
    subst h
    cases obj <;> simp only [ORel] at k ⊢ <;> try exact k.elim
    exact k
mutual
theorem inV_from (H : From φ np na νp νa) : ∀ {p a : AV} {V : Value}, inV φ np na p = some a → den νa a = some V → den νp p = some V
  | .bool b, a, V, h, hd => by
    simp only [inV, Option.some.injEq] at h
    subst h
    exact hd
  | .int k n, a, V, h, hd => by
    simp only [inV, Option.some.injEq] at h
    subst h
    exact hd
  | .str s, a, V, h, hd => by
    simp only [inV, Option.some.injEq] at h
    subst h
    exact hd
  | .nptr, a, V, h, hd => by
    simp only [inV, Option.some.injEq] at h
    subst h
    exact hd
  | .nslice, a, V, h, hd => by
    simp only [inV, Option.some.injEq] at h
    subst h
    exact hd
  | .nmap, a, V, h, hd => by
    simp only [inV, Option.some.injEq] at h
    subst h
    exact hd
  | .nfunc, a, V, h, hd => by
    simp only [inV, Option.some.injEq] at h
    subst h
    exact hd
  | .niface, a, V, h, hd => by
    simp only [inV, Option.some.injEq] at h
    subst h
    exact hd
  | .glob g o, a, V, h, hd => by
    simp only [inV, Option.some.injEq] at h
    subst h
    exact hd
  | .ptr j off, a, V, h, hd => by
    simp only [inV] at h
    split at h
    · rename_i i hi
      injection h with h
      subst h
      simp only [den] at hd ⊢
      cases hc : νa.f i with
      | none => rw [hc] at hd; cases hd
      | some g => rw [hc] at hd; rw [H.f j i g hi hc]; exact hd
    · cases h
  | .slice j off n c, a, V, h, hd => by
    simp only [inV] at h
    split at h
    · rename_i i c' hi hcc
      injection h with h
      subst h
      simp only [den] at hd ⊢
      cases hc : νa.f i with
      | none => rw [hc] at hd; cases hd
      | some g =>
        rw [hc] at hd
        cases hk : capOf νa c' with
        | none => rw [hk] at hd; cases hd
        | some m => rw [hk] at hd; rw [H.f j i g hi hc, inC_from H hcc hk]; exact hd
    · cases h
  | .map j, a, V, h, hd => by
    simp only [inV] at h
    split at h
    · rename_i i hi
      injection h with h
      subst h
      simp only [den] at hd ⊢
      cases hc : νa.f i with
      | none => rw [hc] at hd; cases hd
      | some g => rw [hc] at hd; rw [H.f j i g hi hc]; exact hd
    · cases h
  | .func f x y, a, V, h, hd => by
    simp only [inV] at h
    split at h
    · rename_i f' x' y' hf hx hy
      injection h with h
      subst h
      simp only [den] at hd ⊢
      cases h1 : fnOf νa f' with
      | none => rw [h1] at hd; cases hd
      | some g =>
        rw [h1] at hd
        cases h2 : denL νa x' with
        | none => rw [h2] at hd; cases hd
        | some A =>
          rw [h2] at hd
          cases h3 : denL νa y' with
          | none => rw [h3] at hd; cases hd
          | some B => rw [h3] at hd; rw [inFn_from H hf h1, inL_from H hx h2, inL_from H hy h3]; exact hd
    · cases h
  | .iface t v, a, V, h, hd => by
    simp only [inV] at h
    split at h
    · rename_i v' hv
      injection h with h
      subst h
      simp only [den] at hd ⊢
      cases h1 : den νa v' with
      | none => rw [h1] at hd; cases hd
      | some U => rw [h1] at hd; rw [inV_from H hv h1]; exact hd
    · cases h
  | .agg l, a, V, h, hd => by
    simp only [inV] at h
    split at h
    · rename_i l' hl
      injection h with h
      subst h
      simp only [den] at hd ⊢
      cases h1 : denL νa l' with
      | none => rw [h1] at hd; cases hd
      | some U => rw [h1] at hd; rw [inL_from H hl h1]; exact hd
    · cases h
  | .tup l, a, V, h, hd => by
    simp only [inV] at h
    split at h
    · rename_i l' hl
      injection h with h
      subst h
      simp only [den] at hd ⊢
      cases h1 : denL νa l' with
      | none => rw [h1] at hd; cases hd
      | some U => rw [h1] at hd; rw [inL_from H hl h1]; exact hd
    · cases h
  | .ext j, a, V, h, hd => by
    simp only [inV] at h
    split at h
    · rename_i v hv
      split at h
      · rename_i ho
        injection h with h
        subst h
        simp only [den]
        rw [H.v j _ _ hv hd]
        simp only
        rw [if_pos (one_den ho hd).1]
      · cases h
    · cases h
  | .sym k t, a, V, h, hd => by
    simp only [inV] at h
    split at h
    · rename_i u hu
      injection h with h
      subst h
      rw [mkSym_den] at hd
      simp only [den] at hd ⊢
      cases h1 : denT νa u with
      | none => rw [h1] at hd; cases hd
      | some d => rw [h1] at hd; rw [inT_from H.x H.u hu h1]; exact hd
    · cases h
  | .symB t, a, V, h, hd => by
    simp only [inV] at h
    split at h
    · rename_i u hu
      injection h with h
      subst h
      rw [mkSymB_den] at hd
      simp only [den] at hd ⊢
      cases h1 : denT νa u with
      | none => rw [h1] at hd; cases hd
      | some d => rw [h1] at hd; rw [inT_from H.x H.u hu h1]; exact hd
    · cases h
  | .tail j x y l c m, a, V, h, hd => by
    simp only [inV] at h
    split at h
    · rename_i i c' hi hcc
      injection h with h
      subst h
      simp only [den] at hd ⊢
      cases hc : νa.f i with
      | none => rw [hc] at hd; cases hd
      | some g =>
        rw [hc] at hd
        cases hk : capOf νa (.u c' m) with
        | none => rw [hk] at hd; cases hd
        | some q => rw [hk] at hd; rw [H.f j i g hi hc, inC_from (c := .u c m) (d := .u c' m) H (by simp only [inC, hcc]) hk]; exact hd
    · cases h
theorem inL_from (H : From φ np na νp νa) : ∀ {p a : List AV} {V : List Value}, inL φ np na p = some a → denL νa a = some V → denL νp p = some V
  | [], a, V, h, hd => by
    simp only [inL, Option.some.injEq] at h
    subst h
    exact hd
  | v :: l, a, V, h, hd => by
    simp only [inL] at h
    split at h
    · rename_i v' l' hv hl
      injection h with h
      subst h
      obtain ⟨U, R, h1, h2, rfl⟩ := denL_cons hd
      exact denL_mk (inV_from H hv h1) (inL_from H hl h2)
    · cases h
end
theorem inEs_from (H : From φ np na νp νa) : ∀ {p a : List (AV × AV × Nat)} {l : List MapEntry}, inEs φ np na p = some a → All2 (ERel νa) a l → All2 (ERel νp) p l
  | [], a, l, h, k => by
    simp only [inEs, Option.some.injEq] at h
    subst h
    cases l with
    | nil => trivial
    | cons _ _ => exact k.elim
  | (x, y, c) :: p, a, l, h, k => by
    simp only [inEs] at h
    split at h
    · rename_i x' y' p' hx hy hp
      injection h with h
      subst h
      cases l with
      | nil => exact k.elim
      | cons e l => exact ⟨⟨inV_from H hx k.1.1, inV_from H hy k.1.2.1, k.1.2.2⟩, inEs_from H hp k.2⟩
    · cases h
theorem inO_from {P : Program} (H : From φ np na νp νa) {p a : AObj} {obj : Obj} (h : inO φ np na p = some a) (k : ORel P νa a obj) : ORel P νp p obj := by
  cases p with
  | cells l t c =>
    cases c with
    | none =>
      simp only [inO] at h
      split at h
      · rename_i l' hl
        injection h with h
        subst h
        cases obj <;> simp only [ORel] at k ⊢ <;> try exact k.elim
        obtain ⟨k1, k2, L, R, k3, k4, k5⟩ := k
        exact ⟨k1, k2, L, R, inL_from H hl k3, k4, k5⟩
      · cases h
    | some c =>
      simp only [inO] at h
      split at h
      · rename_i l' c' hl hc
        injection h with h
        subst h
        cases obj <;> simp only [ORel] at k ⊢ <;> try exact k.elim
        obtain ⟨k1, k2, L, R, k3, k4, cap, i, k6, k7, k8⟩ := k
        exact ⟨k1, k2, L, R, inL_from H hl k3, k4, cap, i, H.f _ _ _ hc k6, k7, k8⟩
      · cases h
  | map es c =>
    simp only [inO] at h
    split at h
    · rename_i es' hes
      injection h with h
      subst h
      cases obj <;> simp only [ORel] at k ⊢ <;> try exact k.elim
      exact ⟨k.1, inEs_from H hes k.2⟩
    · cases h
  | iter m x l y =>
    cases m with
    | none =>
      simp only [inO, Option.some.injEq] at h
      subst h
      cases obj <;> simp only [ORel] at k ⊢ <;> try exact k.elim
      exact k
    | some m =>
      simp only [inO] at h
      split at h
      · rename_i m' hm
        injection h with h
        subst h
        cases obj <;> simp only [ORel] at k ⊢ <;> try exact k.elim
        obtain ⟨⟨g, g1, g2⟩, k2⟩ := k
        exact ⟨⟨g, H.f _ _ _ hm g1, g2⟩, k2⟩
      · cases h
  | loop => simp only [inO] at h; cases h
  | defr =>
    simp only [inO, Option.some.injEq] at h
    subst h
    cases obj <;> simp only [ORel] at k ⊢ <;> try exact k.elim
    exact k
end
mutual
theorem closed_den (ν ν' : Nm) : ∀ v : AV, closedV v = true → den ν v = den ν' v
  | .bool _, _ => rfl
  | .int _ _, _ => rfl
  | .str _, _ => rfl
  | .nptr, _ => rfl
  | .nslice, _ => rfl
  | .nmap, _ => rfl
  | .nfunc, _ => rfl
  | .niface, _ => rfl
  | .agg l, h => by simp only [den]; rw [closed_denL ν ν' l h]
  | .tup l, h => by simp only [den]; rw [closed_denL ν ν' l h]
  | .ptr _ _, h => by cases h
  | .slice .., h => by cases h
  | .map _, h => by cases h
  | .func .., h => by cases h
  | .iface .., h => by cases h
  | .ext _, h => by cases h
  | .glob .., h => by cases h
  | .sym .., h => by cases h
  | .symB _, h => by cases h
  | .tail .., h => by cases h
theorem closed_denL (ν ν' : Nm) : ∀ l : List AV, closedL l = true → denL ν l = denL ν' l
  | [], _ => rfl
  | v :: l, h => by
    simp only [closedL, Bool.and_eq_true] at h
    simp only [denL]
    rw [closed_den ν ν' v h.1, closed_denL ν ν' l h.2]
end

section
variable {α : Type}
theorem treeL_acc : ∀ (t : Tr α) (a b : Nat) (acc : List (Nat × α)), ∀ p ∈ acc, p ∈ treeL t a b acc
  | .e, _, _, _, _, h => h
  | .n l v r, a, b, acc, p, h => by
    unfold treeL
    refine treeL_acc l _ _ _ p (treeL_acc r _ _ _ p ?_)
    cases v with
    | none => exact h
    | some x => exact List.mem_cons_of_mem _ h
theorem treeL_get : ∀ {t : Tr α} {a b : Nat} {acc : List (Nat × α)} {k : Nat} {v : α}, t.get k = some v → (a * k + b, v) ∈ treeL t a b acc
  | .e, _, _, _, _, _, h => by cases h
  | .n l w r, a, b, acc, k, v, h => by
    unfold treeL
    rw [Tr.get_n] at h
    split at h
    · rename_i hk
      subst hk h
      refine treeL_acc l _ _ _ _ (treeL_acc r _ _ _ _ ?_)
      simp
    · rename_i hk
      split at h
      · have := treeL_get (a := 2 * a) (b := a + b) (acc := treeL r (2 * a) (2 * a + b) (match w with | some x => (b, x) :: acc | none => acc)) h
        have e : 2 * a * (k / 2) + (a + b) = a * k + b := by
          have : k = 2 * (k / 2) + 1 := by omega
          conv => rhs; rw [this]
          rw [Nat.mul_add, Nat.mul_comm 2 a, Nat.mul_assoc, Nat.mul_one]
          omega
        rwa [e] at this
      · refine treeL_acc l _ _ _ _ ?_
        have := treeL_get (a := 2 * a) (b := 2 * a + b) (acc := match w with | some x => (b, x) :: acc | none => acc) h
        have e : 2 * a * (k / 2 - 1) + (2 * a + b) = a * k + b := by
          have : k = 2 * (k / 2 - 1) + 2 := by omega
          conv => rhs; rw [this]
          rw [Nat.mul_add, Nat.mul_comm 2 a, Nat.mul_assoc]
          omega
        rwa [e] at this
theorem treeL_mem : ∀ {t : Tr α} {a b : Nat} {acc : List (Nat × α)} {p : Nat × α}, p ∈ treeL t a b acc → p ∈ acc ∨ ∃ k, t.get k = some p.2 ∧ p.1 = a * k + b
  | .e, _, _, _, _, h => .inl h
  | .n l w r, a, b, acc, p, h => by
    unfold treeL at h
    rcases treeL_mem h with h | ⟨k, h1, h2⟩
    · rcases treeL_mem h with h | ⟨k, h1, h2⟩
      · cases w with
        | none => exact .inl h
        | some x =>
          rcases List.mem_cons.1 h with rfl | h
          · refine .inr ⟨0, ?_, by simp⟩
            rw [Tr.get_n, if_pos rfl]
          · exact .inl h
      · refine .inr ⟨2 * k + 2, ?_, ?_⟩
        · rw [Tr.get_n, if_neg (by omega), if_neg (by omega)]
          rw [show (2 * k + 2) / 2 - 1 = k by omega]
          exact h1
        · rw [h2, Nat.mul_add, Nat.mul_comm 2 a, Nat.mul_assoc]
          omega
    · refine .inr ⟨2 * k + 1, ?_, ?_⟩
      · rw [Tr.get_n, if_neg (by omega), if_pos (by omega)]
        rw [show (2 * k + 1) / 2 = k by omega]
        exact h1
      · rw [h2, Nat.mul_add, Nat.mul_comm 2 a, Nat.mul_assoc, Nat.mul_one]
        omega
end
theorem tree_mem {α : Type} {t : Tr α} {j : Nat} {ob : α} : (j, ob) ∈ treeL t 1 0 [] ↔ t.get j = some ob := by
  constructor
  · intro h
    rcases treeL_mem h with h | ⟨k, h1, h2⟩
    · cases h
    · simp only [Nat.one_mul, Nat.add_zero] at h2
      rw [h2]
      exact h1
  · intro h
    have := treeL_get (a := 1) (b := 0) (acc := []) h
    rwa [Nat.one_mul, Nat.add_zero] at this

section
variable {φ : Fit} {np na : Nat}
theorem killL_some : ∀ {l : List (Nat × AObj)} {h : Tr AObj} {i : Nat} {ob : AObj}, (killL φ np na l h).get i = some ob → h.get i = some ob ∧ ∀ p ∈ l, inN φ np na p.1 ≠ some i
  | [], _, _, _, k => ⟨k, fun p hp => by cases hp⟩
  | (j, o) :: l, h, i, ob, k => by
    unfold killL at k
    obtain ⟨k1, k2⟩ := killL_some k
    split at k1
    · rename_i i' hi'
      rw [Tr.get_put] at k1
      split at k1
      · cases k1
      · rename_i hne
        refine ⟨k1, fun p hp => ?_⟩
        rcases List.mem_cons.1 hp with rfl | hp
        · intro e
          rw [hi'] at e
          injection e with e
          exact hne e.symm
        · exact k2 p hp
    · rename_i hnone
      refine ⟨k1, fun p hp => ?_⟩
      rcases List.mem_cons.1 hp with rfl | hp
      · intro e
        rw [hnone] at e
        cases e
      · exact k2 p hp
theorem killL_keep : ∀ {l : List (Nat × AObj)} {h : Tr AObj} {i : Nat} {ob : AObj}, h.get i = some ob → (∀ p ∈ l, inN φ np na p.1 ≠ some i) → (killL φ np na l h).get i = some ob
  | [], _, _, _, k, _ => k
  | (j, o) :: l, h, i, ob, k, hn => by
    unfold killL
    refine killL_keep ?_ fun p hp => hn p (List.mem_cons_of_mem _ hp)
    split
    · rename_i i' hi'
      rw [Tr.get_put, if_neg]
      · exact k
      · rintro rfl
        exact hn _ (List.mem_cons_self ..) hi'
    · exact k
theorem putL_some : ∀ {l : List (Nat × AObj)} {h h' : Tr AObj} {i : Nat} {ob : AObj}, putL φ np na l h = some h' → h'.get i = some ob → (∃ p ∈ l, inN φ np na p.1 = some i ∧ inO φ np na p.2 = some ob) ∨ h.get i = some ob
  | [], h, h', i, ob, e, k => by
    simp only [putL, Option.some.injEq] at e
    subst e
    exact .inr k
  | (j, o) :: l, h, h', i, ob, e, k => by
    unfold putL at e
    split at e
    · rename_i i' o' hi ho
      rcases putL_some e k with ⟨p, h1, h2⟩ | h1
      · exact .inl ⟨p, List.mem_cons_of_mem _ h1, h2⟩
      · rw [Tr.get_put] at h1
        split at h1
        · rename_i hii
          injection h1 with h1
          subst h1 hii
          exact .inl ⟨_, List.mem_cons_self .., hi, ho⟩
        · exact .inr h1
    · cases e
theorem putL_keep : ∀ {l : List (Nat × AObj)} {h h' : Tr AObj} {i : Nat} {ob : AObj}, putL φ np na l h = some h' → h.get i = some ob → ∃ ob', h'.get i = some ob'
  | [], h, h', i, ob, e, k => by
    simp only [putL, Option.some.injEq] at e
    subst e
    exact ⟨ob, k⟩
  | (j, o) :: l, h, h', i, ob, e, k => by
    unfold putL at e
    split at e
    · rename_i i' o' hi ho
      by_cases hii : i = i'
      · exact putL_keep (ob := o') e (by rw [Tr.get_put, if_pos hii])
      · exact putL_keep (ob := ob) e (by rw [Tr.get_put, if_neg hii]; exact k)
    · cases e
theorem putL_put : ∀ {l : List (Nat × AObj)} {h h' : Tr AObj} {i : Nat} {p : Nat × AObj}, putL φ np na l h = some h' → p ∈ l → inN φ np na p.1 = some i → ∃ ob', h'.get i = some ob'
  | [], _, _, _, _, _, hp, _ => by cases hp
  | (j, o) :: l, h, h', i, p, e, hp, hi => by
    unfold putL at e
    split at e
    · rename_i i' o' hi' ho
      rcases List.mem_cons.1 hp with rfl | hp
      · rw [hi'] at hi
        injection hi with hi
        subst hi
        exact putL_keep (ob := o') e (by rw [Tr.get_put, if_pos rfl])
      · exact putL_put e hp hi
    · cases e
theorem inPc_mem : ∀ {l m : List (Tm × Bool)}, inPc φ l = some m → ∀ t b, (t, b) ∈ m → ∃ t0, (t0, b) ∈ l ∧ inT φ t0 = some t
  | [], m, h, t, b, hm => by
    simp only [inPc, Option.some.injEq] at h
    subst h
    cases hm
  | (u, c) :: l, m, h, t, b, hm => by
    unfold inPc at h
    split at h
    · rename_i u' l' hu hl
      injection h with h
      subst h
      rcases List.mem_cons.1 hm with e | hm
      · simp only [Prod.mk.injEq] at e
        obtain ⟨rfl, rfl⟩ := e
        exact ⟨u, List.mem_cons_self .., hu⟩
      · obtain ⟨t0, h1, h2⟩ := inPc_mem hl t b hm
        exact ⟨t0, List.mem_cons_of_mem _ h1, h2⟩
    · cases h
theorem decC_sound {ν : Nm} {pc : List (Tm × Bool)} {t : Tm} {b : Bool} (h : decC pc t = some b) (hc : ∀ t b, (t, b) ∈ pc → IsSo ν t b) : IsSo ν t b := by
  unfold decC at h
  split at h
  · rename_i c hk
    injection h with h
    subst h
    exact knownT_sound hk hc
  · split at h
    · rename_i o k x y
      split at h
      · rename_i c hi
        injection h with h
        subst h
        refine ⟨if c then 1 else 0, ?_, by cases c <;> rfl⟩
        simp only [denT, binZ, hi]
      · cases h
    · cases h
theorem pcFit_mem {pc : List (Tm × Bool)} : ∀ {l : List (Tm × Bool)}, pcFit φ pc l = true → ∀ t b, (t, b) ∈ l → ∃ u, inT φ t = some u ∧ decC pc u = some b
  | [], _, t, b, hm => by cases hm
  | (t', b') :: l, h, t, b, hm => by
    simp only [pcFit, Bool.and_eq_true] at h
    rcases List.mem_cons.1 hm with e | hm
    · simp only [Prod.mk.injEq] at e
      obtain ⟨rfl, rfl⟩ := e
      have h1 := h.1
      split at h1
      · rename_i u hu
        split at h1
        · rename_i c hc
          exact ⟨u, hu, by rw [hc, eq_of_beq h1]⟩
        · cases h1
      · cases h1
    · exact pcFit_mem h.2 t b hm
end
theorem inN_old {φ : Fit} {np na j i : Nat} (h : inN φ np na j = some i) (hj : j < np) : i < na := by
  unfold inN at h
  rw [Nat.ble_eq_true_of_le hj] at h
  simp only at h
  split at h
  · split at h
    · rename_i hb
      injection h with h
      subst h
      exact Nat.le_of_ble_eq_true hb
    · cases h
  · cases h
theorem inN_new {φ : Fit} {np na j : Nat} (hj : np ≤ j) : inN φ np na j = some (na + (j - np)) := by
  unfold inN
  have : Nat.ble (j + 1) np = false := by
    cases h : Nat.ble (j + 1) np with
    | false => rfl
    | true => have := Nat.le_of_ble_eq_true h; omega
  rw [this]
theorem glFit_ok {g k : List (Nat × List AV)} {ν νp : Nm} {w : World} (h : glFit g k = true) (hk : GlobOk ν k w) : GlobOk νp g w := by
  unfold glFit at h
  split at h
  · intro g l hg
    cases hg
  · simp only [Bool.and_eq_true] at h
    intro a l hl i v hv
    have hc : closedL l = true := List.all_eq_true.1 h.2 _ hl
    obtain ⟨V, h1, h2⟩ := hk a l (by rw [← eqGl_eq h.1]; exact hl) i v hv
    refine ⟨V, ?_, h2⟩
    have hcv : ∀ {l : List AV} {i : Nat} {v : AV}, closedL l = true → l[i]? = some v → closedV v = true := by
      intro l
      induction l with
      | nil => intro i v _ h; cases h
      | cons x l ih =>
        intro i v hc h
        simp only [closedL, Bool.and_eq_true] at hc
        cases i with
        | zero =>
          simp only [List.getElem?_cons_zero, Option.some.injEq] at h
          subst h
          exact hc.1
        | succ i => exact ih hc.2 (by simpa using h)
    rw [closed_den νp ν v (hcv hc hv)]
    exact h1

theorem outF_spec {φ : Fit} {e : Ent} {s : St} {o o' : Out} (h : outF φ e s o = some o') : ∃ v h' lg pc, inV φ e.s.n s.n o.v = some v ∧ putL φ e.s.n s.n (treeL o.s.h 1 0 []) (killL φ e.s.n s.n (treeL e.s.h 1 0 []) s.h) = some h' ∧ mapO (inN φ e.s.n s.n) o.s.log = some lg ∧ inPc φ o.s.x.pc = some pc ∧
    o' = ⟨.ret, v, .e, [], ⟨h', s.n + (o.s.n - e.s.n), lg ++ s.log, ⟨s.x.gl, pc ++ s.x.pc⟩⟩⟩ := by
  unfold outF at h
  split at h
  · rename_i v h' lg pc _ hv hh' hlg hpc'
    injection h with h
    exact ⟨v, h', lg, pc, hv, hh', hlg, hpc', h.symm⟩
  · cases h

set_option maxHeartbeats 1000000 in
theorem fit_sound {P : Program} {AnyOk : Req → List Out → Prop} {φ : Fit} {e : Ent} {args : List AV} {s : St} {outs : List Out} {n : Nat} (he : SoundReq P AnyOk 0 e.outs (.call e.f e.args e.s)) (h : fitWith φ e args s = some outs) : SoundReq P AnyOk n outs (.call e.f args s) := by
  unfold fitWith at h
  split at h
  · cases h
  rename_i hchk
  simp only [Bool.and_eq_true] at hchk
  obtain ⟨⟨⟨⟨hargs, _⟩, hgl⟩, hpc⟩, hheap⟩ := hchk
  refine ⟨he.1, fun w0 A ν w VS hW hVS => ?_⟩
  generalize hνp : (⟨fun j => match Nat.ble (j + 1) e.s.n with
    | true => (inN φ e.s.n s.n j).map fun i => (ν.f i).getD 0
    | false => none, fun j => match φ.v.get j with
    | some v => (den ν v).map .v
    | none => match φ.x.get j with
      | some t => denT ν t
      | none => none, ν.u⟩ : Nm) = νp
  have pf : ∀ j i, inN φ e.s.n s.n j = some i → j < e.s.n → νp.f j = some ((ν.f i).getD 0) := fun j i hi hj => by
    rw [← hνp]
    simp only
    rw [Nat.ble_eq_true_of_le hj, hi]
    rfl
  have pf2 : ∀ j, e.s.n ≤ j → νp.f j = none := fun j hj => by
    rw [← hνp]
    simp only
    have : Nat.ble (j + 1) e.s.n = false := by
      cases h : Nat.ble (j + 1) e.s.n with
      | false => rfl
      | true => have := Nat.le_of_ble_eq_true h; omega
    rw [this]
  have px : ∀ j u, inX φ j = some u → νp.x j = denT ν u := fun j u hu => by
    rw [← hνp]
    simp only
    unfold inX at hu
    split at hu
    · cases hu
    · rename_i hv
      rw [hv]
      simp only
      rw [hu]
  have pv : ∀ j v, φ.v.get j = some v → νp.x j = (den ν v).map .v := fun j v hv => by
    rw [← hνp]
    simp only
    rw [hv]
  have pu : νp.u = ν.u := by rw [← hνp]
  have F : From φ e.s.n s.n νp ν := by
    refine ⟨fun j i g hi hg => ?_, fun j u d hu hd => (px j u hu).trans hd, fun j v V hv hV => by rw [pv j v hv, hV]; rfl, pu⟩
    rcases Nat.lt_or_ge j e.s.n with hj | hj
    · rw [pf j i hi hj, hg]; rfl
    · rw [inN_new hj] at hi
      injection hi with hi
      rw [hW.top i (by omega)] at hg
      cases hg
  have matched : ∀ j ob, e.s.h.get j = some ob → j < e.s.n ∧ ∃ i ob2, inN φ e.s.n s.n j = some i ∧ s.h.get i = some ob2 ∧ inO φ e.s.n s.n ob = some ob2 ∧ φ.b.get i = some j := fun j ob hj => by
    have := allT_spec hheap j ob hj
    rw [Nat.one_mul, Nat.add_zero] at this
    unfold okF at this
    simp only [Bool.and_eq_true] at this
    obtain ⟨h1, h2⟩ := this
    refine ⟨Nat.le_of_ble_eq_true h1, ?_⟩
    split at h2
    · rename_i i hi
      simp only [Bool.and_eq_true] at h2
      obtain ⟨h3, h4⟩ := h2
      split at h3
      · rename_i a b ha hb
        split at h4
        · rename_i k hk
          refine ⟨i, a, hi, ha, ?_, by rw [hk, Nat.eq_of_beq_eq_true h4]⟩
          rw [hb, eqObj_eq h3]
        · cases h4
      · cases h3
    · cases h2
  have place : ∀ j ob g, e.s.h.get j = some ob → νp.f j = some g → ∃ i ob2, inN φ e.s.n s.n j = some i ∧ s.h.get i = some ob2 ∧ ν.f i = some g := fun j ob g hj hg => by
    obtain ⟨hlt, i, ob2, h1, h2, _, _⟩ := matched j ob hj
    refine ⟨i, ob2, h1, h2, ?_⟩
    rw [pf j i h1 hlt] at hg
    obtain ⟨g', obj, k1, _⟩ := hW.objs i ob2 h2
    have k1 : ν.f i = some g' := k1
    rw [k1] at hg ⊢
    exact hg
  have hWp : WRel P w0 ⟨e.s.h, νp, w⟩ νp e.s w := by
    refine ⟨hW.keep, pf2, fun j ob hj => ?_, fun j k ob ob' hj hk hjk => ?_, Nm.le.refl _, fun j ob hj => ?_, fun j ob hj _ => ⟨⟨ob, hj⟩, fun _ _ => rfl⟩, fun _ _ _ => rfl, Nat.le_refl _, fun j ob hj g hg => .inr ⟨j, ob, hj, hg⟩, glFit_ok hgl hW.ctx.gl, fun t b hb => ?_⟩
    · obtain ⟨hlt, i, ob2, h1, h2, h3, _⟩ := matched j ob hj
      obtain ⟨g, obj, k1, k2, k3, k4⟩ := hW.objs i ob2 h2
      exact ⟨g, obj, F.f j i g h1 k1, k2, k3, inO_from F h3 k4⟩
    · obtain ⟨hlt, i, ob2, h1, h2, h3, h4⟩ := matched j ob hj
      obtain ⟨hlt', i', ob2', h1', h2', h3', h4'⟩ := matched k ob' hk
      obtain ⟨g, obj, k1, _⟩ := hW.objs i ob2 h2
      obtain ⟨g', obj', k1', _⟩ := hW.objs i' ob2' h2'
      have e1 : νp.f j = some g := F.f j i g h1 k1
      have e2 : νp.f k = some g' := F.f k i' g' h1' k1'
      have e3 : νp.f j = νp.f k := hjk
      rw [e1, e2] at e3
      injection e3 with e3
      subst e3
      have := hW.inj i i' ob2 ob2' h2 h2' (Eq.trans (show ν.f i = some g from k1) (show ν.f i' = some g from k1').symm)
      subst this
      rw [h4] at h4'
      injection h4'
    · obtain ⟨hlt, i, ob2, h1, h2, h3, _⟩ := matched j ob hj
      obtain ⟨g, obj, k1, _⟩ := hW.objs i ob2 h2
      exact ⟨g, F.f j i g h1 k1⟩
    · obtain ⟨u, h1, h2⟩ := pcFit_mem hpc t b hb
      obtain ⟨m, h3, h4⟩ := decC_sound h2 hW.ctx.pc
      exact ⟨m, inT_from F.x F.u h1 h3, h4⟩
  have hVSp : denL νp e.args = some VS := by
    split at hargs
    · rename_i l hl
      exact inL_from F hl (by rw [eqVs_eq hargs]; exact hVS)
    · cases hargs
  refine Calls.mono (he.2 w0 ⟨e.s.h, νp, w⟩ νp w VS hWp hVSp) fun x w' hx => ?_
  obtain ⟨o, ho, ν', V, l1, l2, l3, l4⟩ := hx
  obtain ⟨o', ho', hof⟩ := mapO_mem' h o ho
  obtain ⟨v, h', lg, pc, hv, hh', hlg, hpc', rfl⟩ := outF_spec hof
  generalize hνa : (⟨fun i => match Nat.ble (i + 1) s.n with
    | true => some ((ν.f i).getD 0)
    | false => ν'.f (e.s.n + (i - s.n)), ν.x, ν.u⟩ : Nm) = νa
  have ax : νa.x = ν.x := by rw [← hνa]
  have au : νa.u = ν.u := by rw [← hνa]
  have af : ∀ i, i < s.n → νa.f i = some ((ν.f i).getD 0) := fun i hi => by
    rw [← hνa]
    simp only
    rw [Nat.ble_eq_true_of_le hi]
  have af2 : ∀ i, s.n ≤ i → νa.f i = ν'.f (e.s.n + (i - s.n)) := fun i hi => by
    rw [← hνa]
    simp only
    have : Nat.ble (i + 1) s.n = false := by
      cases h : Nat.ble (i + 1) s.n with
      | false => rfl
      | true => have := Nat.le_of_ble_eq_true h; omega
    rw [this]
  have hle : Nm.le ν νa := by
    refine ⟨fun i g hi => ?_, fun i d hd => by rw [ax]; exact hd, fun o l d hd => by rw [au]; exact hd, ax, au⟩
    have hlt : i < s.n := by
      rcases Nat.lt_or_ge i s.n with h | h
      · exact h
      · rw [hW.top i h] at hi; cases hi
    have hi' : ν.f i = some g := hi
    show νa.f i = some g
    rw [af i hlt, hi']
    rfl
  have T : To φ e.s.n s.n ν' νa := by
    refine ⟨fun j i g hi hg => ?_, fun j u d hu hd => ?_, fun j v V hv hV => ?_, by rw [l1.ue, pu, au]⟩
    · rcases Nat.lt_or_ge j e.s.n with hj | hj
      · have h1 := pf j i hi hj
        have h2 : ν'.f j = some ((ν.f i).getD 0) := l1.f j _ h1
        rw [h2] at hg
        rw [af i (inN_old hi hj)]
        exact hg
      · rw [inN_new hj] at hi
        injection hi with hi
        subst hi
        rw [af2 _ (by omega), show e.s.n + (s.n + (j - e.s.n) - s.n) = j by omega]
        exact hg
    · rw [l1.xe, px j u hu] at hd
      exact denT_mono hle u d hd
    · rw [l1.xe, pv j v hv] at hV
      cases hd : den ν v with
      | none => rw [hd] at hV; cases hV
      | some V' =>
        rw [hd] at hV
        simp only [Option.map_some, Option.some.injEq, Dat.v.injEq] at hV
        subst hV
        exact den_mono hle v _ hd
  have live : ∀ i ob, h'.get i = some ob → (∃ j ob0, o.s.h.get j = some ob0 ∧ inN φ e.s.n s.n j = some i ∧ inO φ e.s.n s.n ob0 = some ob) ∨ (s.h.get i = some ob ∧ ∀ j ob0, e.s.h.get j = some ob0 → inN φ e.s.n s.n j ≠ some i) := fun i ob hi => by
    rcases putL_some hh' hi with ⟨p, h1, h2, h3⟩ | h1
    · exact .inl ⟨p.1, p.2, tree_mem.1 h1, h2, h3⟩
    · obtain ⟨h2, h3⟩ := killL_some h1
      exact .inr ⟨h2, fun j ob0 hj => h3 (j, ob0) (tree_mem.2 hj)⟩
  have far : ∀ i ob g, s.h.get i = some ob → (∀ j ob0, e.s.h.get j = some ob0 → inN φ e.s.n s.n j ≠ some i) → ν.f i = some g → (∀ j ob0, e.s.h.get j = some ob0 → νp.f j ≠ some g) ∧ g < w.heap.size ∧ w'.heap[g]? = w.heap[g]? := fun i ob g hi hn hg => by
    have hno : ∀ j ob0, e.s.h.get j = some ob0 → νp.f j ≠ some g := fun j ob0 hj hjg => by
      obtain ⟨i', ob2, h1, h2, h3⟩ := place j ob0 g hj hjg
      have := hW.inj i' i ob2 ob h2 hi (Eq.trans (show ν.f i' = some g from h3) (show ν.f i = some g from hg).symm)
      subst this
      exact hn j ob0 hj h1
    have hlt := hW.lt hi hg
    exact ⟨hno, hlt, l2.far g hlt hno⟩
  refine ⟨_, ho', νa, V, hle, ?_, inV_to T hv l3, l4⟩
  refine ⟨l2.keep, fun i hi => ?_, fun i ob hi => ?_, fun i k ob ob' hi hk hik => ?_, hW.ext.trans hle, hW.anc, fun i ob hi hnl => ?_, fun g hg hn => ?_, Nat.le_trans hW.big l2.big, fun i ob hi g hg => ?_, ⟨fun g l hg i v hv => ?_, fun t b hb => ?_⟩⟩
  · have hi' : s.n + (o.s.n - e.s.n) ≤ i := hi
    show νa.f i = none
    rw [af2 i (by omega)]
    exact l2.top _ (by omega)
  · rcases live i ob hi with ⟨j, ob0, h1, h2, h3⟩ | ⟨h1, h2⟩
    · obtain ⟨g, obj, k1, k2, k3, k4⟩ := l2.objs j ob0 h1
      exact ⟨g, obj, T.f j i g h2 k1, k2, k3, inO_to T h3 k4⟩
    · obtain ⟨g, obj, k1, k2, k3, k4⟩ := hW.objs i ob h1
      exact ⟨g, obj, hle i g k1, k2, (far i ob g h1 h2 k1).2.2.trans k3, k4.mono hle⟩
  · have nameOf : ∀ i ob, h'.get i = some ob → (∃ j ob0 g, o.s.h.get j = some ob0 ∧ inN φ e.s.n s.n j = some i ∧ ν'.f j = some g ∧ νa.f i = some g) ∨ (∃ g, s.h.get i = some ob ∧ (∀ j ob0, e.s.h.get j = some ob0 → inN φ e.s.n s.n j ≠ some i) ∧ ν.f i = some g ∧ νa.f i = some g) := fun i ob hi => by
      rcases live i ob hi with ⟨j, ob0, h1, h2, h3⟩ | ⟨h1, h2⟩
      · obtain ⟨g, obj, k1, _⟩ := l2.objs j ob0 h1
        exact .inl ⟨j, ob0, g, h1, h2, k1, T.f j i g h2 k1⟩
      · obtain ⟨g, obj, k1, _⟩ := hW.objs i ob h1
        exact .inr ⟨g, h1, h2, k1, hle i g k1⟩
    have hik : νa.f i = νa.f k := hik
    have mixed : ∀ (k : Nat) (ob' : AObj) (j : Nat) (ob0 : AObj) (g : Nat), o.s.h.get j = some ob0 → ν'.f j = some g → s.h.get k = some ob' → (∀ j ob0, e.s.h.get j = some ob0 → inN φ e.s.n s.n j ≠ some k) → ν.f k = some g → False := fun k ob' j ob0 g h1 h2 h3 h4 h5 => by
      obtain ⟨n1, n2, _⟩ := far k ob' g h3 h4 h5
      rcases l2.own j ob0 h1 g h2 with h6 | ⟨j', o', h6, h7⟩
      · have h6 : w.heap.size ≤ g := h6
        omega
      · exact n1 j' o' h6 h7
    rcases nameOf i ob hi with ⟨j, ob0, g, h1, h2, h3, h4⟩ | ⟨g, h1, h2, h3, h4⟩ <;> rcases nameOf k ob' hk with ⟨j', ob0', g', h1', h2', h3', h4'⟩ | ⟨g', h1', h2', h3', h4'⟩ <;> rw [h4, h4'] at hik <;> injection hik with hik <;> subst hik
    · have := l2.inj j j' ob0 ob0' h1 h1' (Eq.trans (show ν'.f j = some g from h3) (show ν'.f j' = some g from h3').symm)
      subst this
      rw [h2] at h2'
      injection h2'
    · exact (mixed k ob' j ob0 g h1 h3 h1' h2' h3').elim
    · exact (mixed i ob j' ob0' g h1' h3' h1 h2 h3).elim
    · exact hW.inj i k ob ob' h1 h1' (Eq.trans (show ν.f i = some g from h3) (show ν.f k = some g from h3').symm)
  · have hnl1 : i ∉ lg := fun hm => hnl (List.mem_append_left _ hm)
    obtain ⟨⟨o2, h1⟩, h2⟩ := hW.same i ob hi fun hm => hnl (List.mem_append_right _ hm)
    by_cases hm : ∃ j ob0, e.s.h.get j = some ob0 ∧ inN φ e.s.n s.n j = some i
    · obtain ⟨j, ob0, m1, m2⟩ := hm
      have hj : j ∉ o.s.log := fun hm => hnl1 (by
        obtain ⟨y, y1, y2⟩ := mapO_mem' hlg j hm
        rw [m2] at y2
        injection y2 with y2
        rw [y2]
        exact y1)
      obtain ⟨⟨o3, h3⟩, h4⟩ := l2.same j ob0 m1 hj
      refine ⟨putL_put hh' (tree_mem.2 h3) m2, fun g hg => ?_⟩
      have hg' : ν.f i = some g := hW.ext _ _ hg
      exact (h4 g (F.f j i g m2 hg')).trans (h2 g hg)
    · have hm : ∀ j ob0, e.s.h.get j = some ob0 → inN φ e.s.n s.n j ≠ some i := fun j ob0 h3 h4 => hm ⟨j, ob0, h3, h4⟩
      refine ⟨putL_keep hh' (killL_keep h1 fun p hp => hm p.1 p.2 (tree_mem.1 hp)), fun g hg => ?_⟩
      exact (far i o2 g h1 hm (hW.ext _ _ hg)).2.2.trans (h2 g hg)
  · refine (l2.far g (Nat.lt_of_lt_of_le hg hW.big) fun j ob0 hj hjg => ?_).trans (hW.far g hg hn)
    obtain ⟨i, ob2, h1, h2, h3⟩ := place j ob0 g hj hjg
    rcases hW.own i ob2 h2 g h3 with h4 | ⟨k, o', h4, h5⟩
    · omega
    · exact hn k o' h4 h5
  · have hg : νa.f i = some g := hg
    rcases live i ob hi with ⟨j, ob0, h1, h2, h3⟩ | ⟨h1, h2⟩
    · obtain ⟨g', obj, k1, _⟩ := l2.objs j ob0 h1
      have k2 := T.f j i g' h2 k1
      rw [k2] at hg
      injection hg with hg
      subst hg
      rcases l2.own j ob0 h1 g' k1 with h4 | ⟨k, o', h4, h5⟩
      · exact .inl (Nat.le_trans hW.big h4)
      · obtain ⟨i', ob2, m1, m2, m3⟩ := place k o' g' h4 h5
        exact hW.own i' ob2 m2 g' m3
    · obtain ⟨g', obj, k1, _⟩ := hW.objs i ob h1
      have k2 : νa.f i = some g' := hle i g' k1
      rw [k2] at hg
      injection hg with hg
      subst hg
      exact hW.own i ob h1 g' k1
  · obtain ⟨V, h1, h2⟩ := hW.ctx.gl g l hg i v hv
    exact ⟨V, den_mono hle v V h1, h2⟩
  · rcases List.mem_append.1 hb with hb | hb
    · obtain ⟨t0, h1, h2⟩ := inPc_mem hpc' t b hb
      obtain ⟨m, h3, h4⟩ := l2.ctx.pc t0 b h1
      exact ⟨m, inT_to T.x T.u h2 h3, h4⟩
    · obtain ⟨m, h3, h4⟩ := hW.ctx.pc t b hb
      exact ⟨m, denT_mono hle t _ h3, h4⟩
theorem fitTab_sound {P : Program} {AnyOk : Req → List Out → Prop} {f : Nat} {args : List AV} {s : St} {outs : List Out} {n : Nat} : ∀ {tab : List Ent}, TabOk P AnyOk tab → fitTab f args s tab = some outs → SoundReq P AnyOk n outs (.call f args s)
  | [], _, h => by cases h
  | e :: r, hT, h => by
    unfold fitTab at h
    split at h
    · exact fitTab_sound (fun x hx => hT x (List.mem_cons_of_mem _ hx)) h
    · rename_i hf
      split at h
      · rename_i os hos
        injection h with h
        subst h
        rw [← Nat.eq_of_beq_eq_true hf]
        exact fit_sound (hT e (List.mem_cons_self ..)) hos
      · exact fitTab_sound (fun x hx => hT x (List.mem_cons_of_mem _ hx)) h

end Go.Proofs.YtlijlapkhimaoaaGreatDoor
