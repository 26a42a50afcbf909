/- The evaluator, 11: operations. No program in sight. -/
import Derived.Test.YtlijlapkhimaoaaGreatDoorE10
namespace Go.Proofs.YtlijlapkhimaoaaGreatDoor
open Go Go.RowKit

section
variable {P : Program} {w0 w : World} {A : Anch} {ν : Nm} {s : St} {T : Tr AV} {N : Nat} {a : Act}

theorem arr_of {α : Type} {x : Array α} {l : List α} (h : x.toList = l) : x = l.toArray := by rw [← h]
theorem run_builtin {o : Oper} {c : Call} {b : Builtin} (hop : o.op = .call c) (hc : c.callee = .builtin b) (ρ : Operand → Value) (w : World) :
    (execOp ρ o).run P w = (builtin b c.argTypes o.type (c.args.map fun | .const _ => true | _ => false) (c.args.map ρ)).run P w := by
  unfold execOp
  rw [hop]
  simp only [resolve, hc, bind, pure, Sem.bind, invoke]
  rfl
theorem fnOf_spec {f : AFn} {fn : Fn} (h : fnOf ν f = some fn) : (∃ g, fn = .func g) ∨ ∃ g, fn = .yield g := by
  cases f with
  | func g => simp only [fnOf, Option.some.injEq] at h; exact .inl ⟨g, h.symm⟩
  | yield l =>
    simp only [fnOf] at h
    split at h
    · injection h with h; exact .inr ⟨_, h.symm⟩
    · cases h

theorem run_len {t ty : TypeId} {d : TypeDesc} {x v : AV} {X : Value} (hu : P.underlying t = some d) (h : lenT P s d x = some v) (hx : den ν x = some X) (hd : (∀ k e, d ≠ .map k e) ∨ WRel P w0 A ν s w) (rest : List TypeId) :
    ∃ V, den ν v = some V ∧ (Builtin.len_ (t :: rest).toArray ty #[X]).run P w = .ok V w := by
  have start : ∀ {f : TypeDesc → Sem Value} {V : Value}, (f d).run P w = .ok V w → (Sem.bind (underlying t) f).run P w = .ok V w := fun hf => by rw [run_bind, run_underlying hu]; exact hf
  unfold lenT at h
  unfold Builtin.len_
  simp only [List.getElem?_toArray, List.getElem?_cons_zero, bind]
  split at h
  · injection h with h
    simp only [den, Option.some.injEq] at hx
    subst hx h
    exact ⟨_, rfl, start rfl⟩
  · injection h with h
    simp only [den, Option.some.injEq] at hx
    subst hx h
    exact ⟨_, rfl, start rfl⟩
  · injection h with h
    obtain ⟨g, C, _, _, _, rfl⟩ := slice_den hx
    subst h
    exact ⟨_, rfl, start rfl⟩
  · injection h with h
    subst h
    exact ⟨_, rfl, start rfl⟩
  · rename_i el _
    split at h
    · rename_i n e he
      injection h with h
      subst h
      refine ⟨_, rfl, start ?_⟩
      simp only []
      rw [run_bind, run_underlying he]
      rfl
    · cases h
  · injection h with h
    simp only [den, Option.some.injEq] at hx
    subst hx h
    exact ⟨_, rfl, start rfl⟩
  · rename_i kt e i
    obtain ⟨g, hg, rfl⟩ := map_den hx
    rcases hd with hd | hW
    · exact absurd rfl (hd _ _)
    · split at h
      · rename_i es c hi
        injection h with h
        subst h
        obtain ⟨arr, ho, harr⟩ := hW.map_ hi hg
        refine ⟨_, rfl, start ?_⟩
        simp only []
        rw [run_bind, run_getObj ho (by simp)]
        have := harr.length
        simp only [Array.length_toList] at this
        rw [this]
        rfl
      · cases h
  · cases h

theorem run_fieldAt {st : TypeId} {fields : Array Field} {f : Nat} {fd : Field} {g off n : Nat} (hu : P.underlying st = some (.struct fields)) (hf : fields[f]? = some fd) (hs : sizeT P fd.type = some (n + 1)) (w : World) :
    (Instr.fieldAt st (.pointer (some ⟨g, off, none⟩)) f).run P w = .ok (.pointer (some ⟨g, off + fd.offset, none⟩)) w := by
  unfold Instr.fieldAt
  simp only [bind]
  rw [run_bind, run_underlying hu]
  simp only [hf]
  show (Sem.bind (Instr.sureAddr _) _).run P w = _
  rw [run_bind]
  show (Sem.bind (fieldPlace ⟨g, off, none⟩ fd) _).run P w = _
  rw [run_bind]
  unfold fieldPlace
  simp only [bind]
  rw [run_bind, run_sizeT hs]
  simp only [Nat.add_one_ne_zero, if_false]
  show Result.ok (Value.pointer (some ((⟨g, off, none⟩ : Addr).add fd.offset))) w = _
  rw [addr_add]

theorem pure0_rel {o : Oper} (hF : FRel ν T N a.tmps) (hwl : worldless P o.op = true) {v : AV} (h : pureA P s T o.op = some v) : ∃ V, den ν v = some V ∧ ∀ w, (execOp a.eval o).run P w = .ok (.value V) w := by
  apply uni
  intro w
  have fin : ∀ {x : Sem Value}, (∃ V, den ν v = some V ∧ x.run P w = .ok V w) → (execOp a.eval o = Sem.bind x fun v => Sem.pure (Next.value v)) → ∃ V, den ν v = some V ∧ (execOp a.eval o).run P w = .ok (.value V) w := fun ⟨V, h1, h2⟩ e => ⟨V, h1, by rw [e]; exact run_val h2⟩
  cases hop : o.op <;> rw [hop] at h hwl <;> simp only [pureA] at h <;> (try (cases h; done))
  case move x => exact ⟨_, hF.evA h, by unfold execOp; rw [hop]; rfl⟩
  case assign x => exact ⟨_, hF.evA h, by unfold execOp; rw [hop]; rfl⟩
  case pick c x y =>
    split at h
    · rename_i hc
      have := hF.evA hc
      simp only [den, Option.some.injEq] at this
      exact ⟨_, hF.evA h, by unfold execOp; rw [hop]; simp only [← this]; rfl⟩
    · rename_i hc
      have := hF.evA hc
      simp only [den, Option.some.injEq] at this
      exact ⟨_, hF.evA h, by unfold execOp; rw [hop]; simp only [← this]; rfl⟩
    · cases h
  case build t parts =>
    split at h
    · rename_i ps hps
      have hp := parts_den hF hps
      refine fin (x := Instr.build t (parts.map fun (i, x) => (i, a.eval x))) (run_build ?_ h trivial) (by unfold execOp; rw [hop]; rfl)
      simpa using hp
    · cases h
  case load => cases hwl
  case nilCheck x =>
    have key : ∀ {u : AV}, evA T x = some u → u ≠ .nptr → u ≠ .niface → u ≠ .nfunc → (∀ v, u ≠ .ext v) → ∃ V, den ν u = some V ∧ (execOp a.eval o).run P w = .ok (.value V) w := fun {u} hu h1 h2 h3 h4 => by
      have hd := hF.evA hu
      refine ⟨_, hd, ?_⟩
      unfold execOp
      rw [hop]
      simp only []
      cases u <;> simp only [den] at hd <;> (repeat' split at hd) <;> (try (cases hd; done))
      all_goals first
        | exact absurd rfl h1
        | exact absurd rfl h2
        | exact absurd rfl h3
        | exact absurd rfl (h4 _)
        | skip
      all_goals injection hd with hd
      all_goals rw [← hd]
      all_goals first
        | rfl
        | (rename_i hfn _ _
           rcases fnOf_spec hfn with ⟨g, rfl⟩ | ⟨g, rfl⟩ <;> rfl)
    split at h
    · cases h
    · cases h
    · cases h
    · cases h
    · rename_i r n1 n2 n3 n4
      exact key h (fun e => n1 (by rw [h, e])) (fun e => n2 (by rw [h, e])) (fun e => n3 (by rw [h, e])) (fun v e => n4 v (by rw [h, e]))
  case binOp op t x y t2 =>
    split at h
    · rename_i p q hp hq
      split at h
      · rename_i u hu
        injection h with h
        subst h
        exact fin (binS_rel hu (hF.evA hp) (hF.evA hq) x y w) (by unfold execOp; rw [hop]; rfl)
      · exact fin (eqlA_rel h (hF.evA hp) (hF.evA hq) w) (by unfold execOp; rw [hop]; rfl)
    · cases h
  case unOp op t x =>
    split at h
    · rename_i p hp
      exact fin (unA_rel h (hF.evA hp) w) (by unfold execOp; rw [hop]; rfl)
    · cases h
  case convert src dst x =>
    have run_ : ∀ {d1 d2 : TypeDesc} {V : Value}, P.underlying src = some d1 → P.underlying dst = some d2 → (∀ (f : TypeDesc → TypeDesc → Sem Value), (Sem.bind (underlying src) fun a => Sem.bind (underlying dst) fun b => f a b).run P w = (f d1 d2).run P w) := fun h1 h2 f => by
      rw [run_bind, run_underlying h1]
      simp only []
      rw [run_bind, run_underlying h2]
    split at h
    · rename_i k n hx
      have hd := hF.evA hx
      simp only [den, Option.some.injEq] at hd
      split at h
      · rename_i d1 k' h1 h2
        injection h with h
        subst h
        refine fin (x := convert src dst (a.eval x)) ⟨_, rfl, ?_⟩ (by unfold execOp; rw [hop]; rfl)
        rw [← hd]
        refine (run_ h1 h2 (V := .bool true) _).trans ?_
        rfl
      · cases h
    · rename_i b hx
      have hd := hF.evA hx
      simp only [den, Option.some.injEq] at hd
      split at h
      · rename_i d1 h1 h2
        injection h with h
        subst h
        refine fin (x := convert src dst (a.eval x)) ⟨_, rfl, ?_⟩ (by unfold execOp; rw [hop]; rfl)
        rw [← hd]
        refine (run_ h1 h2 (V := .bool true) _).trans ?_
        rfl
      · cases h
    · rename_i k u hx
      obtain ⟨n, hn, hd⟩ := sym_den (hF.evA hx)
      split at h
      · rename_i d1 k' h1 h2
        injection h with h
        subst h
        refine fin (x := convert src dst (a.eval x)) ⟨.int k' (k'.wrap n), by simp only [den, denT, hn], ?_⟩ (by unfold execOp; rw [hop]; rfl)
        rw [hd]
        refine (run_ h1 h2 (V := .bool true) _).trans ?_
        rfl
      · cases h
    · split at h
      · rename_i hsl _
        simp only [worldless, hsl] at hwl
        cases hwl
      · cases h
    · cases h
  case makeInterface t x =>
    cases hu : P.underlying t with
    | none => simp [hu] at h
    | some d =>
      cases hp : evA T x with
      | none => rw [hu, hp] at h; cases d <;> cases h
      | some p =>
        rw [hu, hp] at h
        have hv : v = .iface t p := by cases d <;> first | (cases h; done) | (injection h with h; exact h.symm)
        subst hv
        refine fin (x := Instr.makeInterface t (a.eval x)) ⟨.iface t (a.eval x), by simp only [den, hF.evA hp], ?_⟩ (by unfold execOp; rw [hop]; rfl)
        unfold Instr.makeInterface
        simp only [bind]
        rw [run_bind, run_underlying hu]
        cases d <;> first | (cases h; done) | rfl
  case makeFunc fn first cap =>
    split at h
    · rename_i f p q hp hq
      injection h with h
      subst h
      refine ⟨.func (.func f) (first.map a.eval) (cap.map a.eval), ?_, by unfold execOp; rw [hop]; rfl⟩
      simp only [den, fnOf, list_den hF hp, list_den hF hq]
      have e : ∀ x : Array Operand, (x.toList.map a.eval).toArray = x.map a.eval := fun x => Array.ext' (by simp)
      rw [e, e]
    · cases h
  case slice t x lo hi mx =>
    split at h
    · rename_i p l hh m hp hl hhi hm
      refine fin (x := Instr.sliceAt t (a.eval x) (lo.map a.eval) (hi.map a.eval) (mx.map a.eval)) (run_slice (hF.evA hp) (opt_den hF hl) (opt_den hF hhi) (opt_den hF hm) h) (by unfold execOp; rw [hop]; rfl)
    · cases h
  case fieldAddr st x f =>
    split at h
    · rename_i fields i off hu hp
      split at h
      · rename_i fd hf
        split at h
        · cases h
        · rename_i n hne hs
          injection h with h
          subst h
          obtain ⟨g, hg, e⟩ := ptr_den (hF.evA hp)
          cases n with
          | zero => exact absurd rfl hne
          | succ n =>
            refine fin (x := Instr.fieldAt st (a.eval x) f) ⟨.pointer (some ⟨g, off + fd.offset, none⟩), by simp only [den, hg], ?_⟩ (by unfold execOp; rw [hop]; rfl)
            rw [e]
            exact run_fieldAt hu hf hs w
        · cases h
      · cases h
    · rename_i fields g off hu hp
      have e := hF.evA hp
      simp only [den, Option.some.injEq] at e
      split at h
      · rename_i fd hf
        split at h
        · cases h
        · rename_i n hne hs
          injection h with h
          subst h
          cases n with
          | zero => exact absurd rfl hne
          | succ n =>
            refine fin (x := Instr.fieldAt st (a.eval x) f) ⟨.pointer (some ⟨g, off + fd.offset, none⟩), by simp only [den], ?_⟩ (by unfold execOp; rw [hop]; rfl)
            rw [← e]
            exact run_fieldAt hu hf hs w
        · cases h
      · cases h
    · cases h
  case field st x f =>
    split at h
    · rename_i fields cs hu hp
      split at h
      · rename_i fd hf
        obtain ⟨L, hL, e⟩ := agg_den (hF.evA hp)
        obtain ⟨V, h1, h2⟩ := run_part (P := P) (w := w) hL h
        refine fin (x := Instr.field st (a.eval x) f) ⟨V, h1, ?_⟩ (by unfold execOp; rw [hop]; rfl)
        rw [e]
        unfold Instr.field
        simp only [bind]
        rw [run_bind, run_underlying hu]
        simp only [hf]
        exact h2
      · cases h
    · cases h
  case indexAddr t x ix =>
    split at h
    · rename_i n e b off j hu hp hj
      obtain ⟨u, hu1, hu2⟩ := bind_natOf hj
      obtain ⟨k, rfl⟩ := natOf_spec hu2
      have hi := hF.evA hu1
      simp only [den, Option.some.injEq] at hi
      obtain ⟨g, hg, eg⟩ := ptr_den (hF.evA hp)
      split at h
      · rename_i z hle hz
        injection h with h
        subst h
        refine fin (x := Instr.indexAt t (a.eval x) (a.eval ix)) ⟨.pointer (some ⟨g, off + j * z, none⟩), by simp only [den, hg], ?_⟩ (by unfold execOp; rw [hop]; rfl)
        rw [eg, ← hi]
        exact indexAt_array hu (Nat.le_of_ble_eq_true hle) hz w
      · cases h
    · rename_i n e g off j hu hp hj
      obtain ⟨u, hu1, hu2⟩ := bind_natOf hj
      obtain ⟨k, rfl⟩ := natOf_spec hu2
      have hi := hF.evA hu1
      simp only [den, Option.some.injEq] at hi
      have eg := hF.evA hp
      simp only [den, Option.some.injEq] at eg
      split at h
      · rename_i z hle hz
        injection h with h
        subst h
        refine fin (x := Instr.indexAt t (a.eval x) (a.eval ix)) ⟨.pointer (some ⟨g, off + j * z, none⟩), by simp only [den], ?_⟩ (by unfold execOp; rw [hop]; rfl)
        rw [← eg, ← hi]
        exact indexAt_array hu (Nat.le_of_ble_eq_true hle) hz w
      · cases h
    · rename_i e b off n c j hu hp hj
      obtain ⟨u, hu1, hu2⟩ := bind_natOf hj
      obtain ⟨k, rfl⟩ := natOf_spec hu2
      have hi := hF.evA hu1
      simp only [den, Option.some.injEq] at hi
      obtain ⟨g, C, hg, hC, hle', eg⟩ := slice_den (hF.evA hp)
      split at h
      · rename_i z hle hz
        injection h with h
        subst h
        refine fin (x := Instr.indexAt t (a.eval x) (a.eval ix)) ⟨.pointer (some ⟨g, off + j * z, none⟩), by simp only [den, hg], ?_⟩ (by unfold execOp; rw [hop]; rfl)
        rw [eg, ← hi]
        exact indexAt_slice hu (Nat.le_of_ble_eq_true hle) hz w
      · cases h
    · cases h
  case index t x ix =>
    split at h
    · rename_i n e cs j hu hp hj
      obtain ⟨u, hu1, hu2⟩ := bind_natOf hj
      obtain ⟨k, rfl⟩ := natOf_spec hu2
      have hi := hF.evA hu1
      simp only [den, Option.some.injEq] at hi
      obtain ⟨L, hL, eg⟩ := agg_den (hF.evA hp)
      split at h
      · rename_i z hle hz
        obtain ⟨V, h1, h2⟩ := run_part (P := P) (w := w) hL h
        refine fin (x := Instr.index t (a.eval x) (a.eval ix)) ⟨V, h1, ?_⟩ (by unfold execOp; rw [hop]; rfl)
        rw [eg, ← hi]
        unfold Instr.index
        simp only [asIntOf, bind, pure, Sem.bind]
        rw [run_bind, run_underlying hu]
        have h0 : (0 : Int) ≤ Int.ofNat j ∧ Int.ofNat j < (n : Int) := ⟨Int.natCast_nonneg j, Int.ofNat_lt.2 (Nat.le_of_ble_eq_true hle)⟩
        simp only [h0, and_self, if_true]
        rw [run_bind, run_sizeT hz]
        exact h2
      · cases h
    · rename_i b j hu hp hj
      obtain ⟨u, hu1, hu2⟩ := bind_natOf hj
      obtain ⟨k, rfl⟩ := natOf_spec hu2
      have hi := hF.evA hu1
      have hs := hF.evA hp
      simp only [den, Option.some.injEq] at hi hs
      split at h
      · rename_i c hc
        injection h with h
        subst h
        refine fin (x := Instr.index t (a.eval x) (a.eval ix)) ⟨_, rfl, ?_⟩ (by unfold execOp; rw [hop]; rfl)
        rw [← hs, ← hi]
        unfold Instr.index
        simp only [asIntOf, bind, pure, Sem.bind]
        rw [run_bind, run_underlying hu]
        have h0 : (0 : Int) ≤ Int.ofNat j := Int.natCast_nonneg j
        have hb : (ByteArray.mk b.toArray)[j]? = some c := by
          have hlt : j < b.length := (List.getElem?_eq_some_iff.1 hc).1
          have hlt' : j < (ByteArray.mk b.toArray).size := hlt
          rw [getElem?_pos _ j hlt']
          have := (List.getElem?_eq_some_iff.1 hc).2
          congr 1
        simp only [h0, if_true, Int.ofNat_eq_natCast, Int.toNat_natCast, hb]
        rfl
      · cases h
    · cases h
  case lookup => cases hwl
  case extract x i =>
    split at h
    · rename_i l hp
      obtain ⟨L, hL, e⟩ := tup_den (hF.evA hp)
      obtain ⟨V, h1, h2⟩ := denL_get hL h
      refine fin (x := Instr.extract (a.eval x) i) ⟨V, h2, ?_⟩ (by unfold execOp; rw [hop]; rfl)
      rw [e]
      unfold Instr.extract
      simp only [List.getElem?_toArray, h1]
      rfl
    · cases h
  case entry => cases hwl
  case typeAssert x t1 t ok =>
    cases hu : P.underlying t with
    | none => simp [hu] at h
    | some d =>
      cases hp : evA T x with
      | none => rw [hu, hp] at h; cases d <;> cases h
      | some p =>
        rw [hu, hp] at h
        cases p <;> (try (cases d <;> cases h; done))
        rename_i t' u
        have hk : (match Nat.beq t' t with | true => some (if ok = true then AV.tup [u, .bool true] else u) | false => none) = some v ∧ ∀ ms, d ≠ .interface ms := by cases d <;> first | (cases h; done) | exact ⟨h, fun _ e => by cases e⟩
        obtain ⟨h2, hni⟩ := hk
        clear h
        cases ht : Nat.beq t' t with
        | false => rw [ht] at h2; cases h2
        | true =>
          rw [ht] at h2
          have ht := Nat.eq_of_beq_eq_true ht
          subst ht
          have h : (if ok = true then AV.tup [u, .bool true] else u) = v := Option.some.inj h2
          subst h
          have hd := hF.evA hp
          simp only [den] at hd
          cases hU : den ν u with
          | none => rw [hU] at hd; cases hd
          | some U =>
            rw [hU] at hd
            injection hd with hd
            refine fin (x := Instr.typeAssert (a.eval x) t1 t' ok) ⟨if ok then .tuple #[U, .bool true] else U, ?_, ?_⟩ (by unfold execOp; rw [hop]; rfl)
            · cases ok with
              | true => simp [den, denL, hU]
              | false => exact hU
            · rw [← hd]
              unfold Instr.typeAssert
              simp only [bind]
              rw [run_bind, run_underlying hu]
              cases d <;> first | (exact absurd rfl (hni _)) | (simp only [if_true]; rfl)
  case call c =>
    split at h
    · rename_i hc
      split at h
      · rename_i x t hx ht
        split at h
        · rename_i d u hu hp
          have hnm : ∀ k e, d ≠ .map k e := fun k e hd => by
            subst hd
            simp only [worldless, hc, ht, hu] at hwl
            cases hwl
          have hat : ∃ rest, c.argTypes = (t :: rest).toArray := by
            cases hL : c.argTypes.toList with
            | nil => rw [← Array.getElem?_toList, hL] at ht; cases ht
            | cons t' rest =>
              rw [← Array.getElem?_toList, hL] at ht
              injection ht with ht
              subst ht
              exact ⟨rest, arr_of hL⟩
          obtain ⟨rest, hat⟩ := hat
          obtain ⟨V, h1, h2⟩ := run_len (P := P) (w0 := w) (A := ⟨.e, ⟨fun _ => none, fun _ => none, fun _ _ => none⟩, w⟩) (w := w) (ty := o.type) hu h (hF.evA hp) (.inl hnm) rest
          refine ⟨V, h1, ?_⟩
          rw [run_builtin hop hc, hat, arr_of hx]
          simp only [List.map_toArray, List.map_cons, List.map_nil]
          exact run_val h2
        · cases h
      · cases h
    · rename_i hc
      split at h
      · rename_i x y hx
        split at h
        · rename_i k p k' q hp hq
          injection h with h
          subst h
          have d1 := hF.evA hp
          have d2 := hF.evA hq
          simp only [den, Option.some.injEq] at d1 d2
          refine ⟨_, rfl, ?_⟩
          rw [run_builtin hop hc, arr_of hx]
          simp only [List.map_toArray, List.map_cons, List.map_nil, ← d1, ← d2]
          rfl
        · cases h
      · cases h
    · rename_i hc
      split at h
      · rename_i x y hx
        split at h
        · rename_i k p k' q hp hq
          injection h with h
          subst h
          have d1 := hF.evA hp
          have d2 := hF.evA hq
          simp only [den, Option.some.injEq] at d1 d2
          refine ⟨_, rfl, ?_⟩
          rw [run_builtin hop hc, arr_of hx]
          simp only [List.map_toArray, List.map_cons, List.map_nil, ← d1, ← d2]
          rfl
        · cases h
      · cases h
    · cases h
end

end Go.Proofs.YtlijlapkhimaoaaGreatDoor
