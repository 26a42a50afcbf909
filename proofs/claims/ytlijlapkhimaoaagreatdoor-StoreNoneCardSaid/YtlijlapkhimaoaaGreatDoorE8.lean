/- The evaluator, 8: maps. No program in sight. -/
import Derived.Test.YtlijlapkhimaoaaGreatDoorE7
namespace Go.Proofs.YtlijlapkhimaoaaGreatDoor
open Go Go.RowKit

theorem run_getObj {P : Program} {w : World} {g : Nat} {o : Obj} (h : w.heap[g]? = some o) (hc : ∀ a b c, o ≠ .cells a b c) : (getObj g).run P w = .ok o w := by
  unfold getObj
  cases o <;> first | (exact absurd rfl (hc _ _ _)) | simp only [Sem.run, h]
theorem run_setObj {P : Program} {w : World} {g : Nat} {o : Obj} (o' : Obj) (h : w.heap[g]? = some o) (hc : ∀ a b c, o ≠ .cells a b c) : (setObj g o').run P w = .ok () (w.putObj g o') := by
  unfold setObj
  cases o <;> first | (exact absurd rfl (hc _ _ _)) | (simp only [Sem.run, h]; rfl)

section
variable {P : Program} {w0 w : World} {A : Anch} {ν : Nm} {s : St}

theorem WRel.map_ (h : WRel P w0 A ν s w) {i g : Nat} {es : List (AV × AV × Nat)} {c : Nat} (hi : s.h.get i = some (.map es c)) (hg : ν i = some g) : ∃ arr, w.heap[g]? = some (.map arr c) ∧ All2 (ERel ν) es arr.toList := by
  obtain ⟨obj, h1, h2⟩ := h.at_ hi hg
  cases obj <;> simp only [ORel] at h2 <;> try exact h2.elim
  obtain ⟨rfl, h2⟩ := h2
  exact ⟨_, h1, h2⟩
theorem WRel.putObj (h : WRel P w0 A ν s w) {i g : Nat} {o0 o : AObj} {obj : Obj} (hi : s.h.get i = some o0) (hg : ν i = some g) (hO : ORel P ν o obj) : WRel P w0 A ν (setO s i o) (w.putObj g obj) :=
  h.write hi hg hO (Upd.obj obj (h.lt hi hg)) (fun _ hx => List.mem_cons_of_mem _ hx) (fun _ _ => List.mem_cons_self)

/-- the entries that a map has -/
theorem mapOf_run (h : WRel P w0 A ν s w) {m : AV} {M : Value} {es : List (AV × AV × Nat)} {c : Nat} (hm : den ν m = some M) (ho : mapOf s m = some (es, c)) : ∃ arr : Array MapEntry, All2 (ERel ν) es arr.toList ∧
    ((M = .map none ∧ arr = #[]) ∨ ∃ g, M = .map (some g) ∧ w.heap[g]? = some (.map arr c)) := by
  unfold mapOf at ho
  split at ho
  · simp only [Option.some.injEq, Prod.mk.injEq] at ho
    simp only [den, Option.some.injEq] at hm
    obtain ⟨rfl, rfl⟩ := ho
    subst hm
    exact ⟨#[], trivial, .inl ⟨rfl, rfl⟩⟩
  · rename_i i
    split at ho
    · rename_i es' c' hi
      simp only [Option.some.injEq, Prod.mk.injEq] at ho
      obtain ⟨rfl, rfl⟩ := ho
      obtain ⟨g, hg, rfl⟩ := map_den hm
      obtain ⟨arr, h1, h2⟩ := h.map_ hi hg
      exact ⟨arr, h2, .inr ⟨g, rfl, h1⟩⟩
    · cases ho
  · cases ho

theorem lookupA_rel (h : WRel P w0 A ν s w) {t : TypeId} {m k v : AV} {M K : Value} {ok : Bool} (hl : lookupA P s t m k ok = some v) (hm : den ν m = some M) (hk : den ν k = some K) : ∃ V, den ν v = some V ∧ (Instr.lookup t M K ok).run P w = .ok V w := by
  unfold lookupA at hl
  split at hl
  · rename_i kt e hu
    split at hl
    · rename_i es c hf hes
      obtain ⟨arr, harr, hM⟩ := mapOf_run (P := P) h hm hes
      have hck := fun b => run_checkKey (P := P) (w := w) (ν := ν) (b := b) (n := 9998) hf hk
      have key : ∀ (F : Array MapEntry → Sem Value), (∀ w', (F arr).run P w' = ((Instr.checkKey arr.isEmpty 10000 kt K).bind fun _ => (Instr.findKey kt K arr.toList).bind fun r =>
          match r with
          | some (_, v) => pure (if ok then .tuple #[v, .bool true] else v)
          | none => (zeroValue e).bind fun z => pure (if ok then .tuple #[z, .bool false] else z)).run P w') → ∃ V, den ν v = some V ∧ (F arr).run P w = .ok V w := fun F hF => by
        rw [hF]
        split at hl
        · rename_i j v' b hfd
          obtain ⟨R, h1, h2⟩ := run_findKey (P := P) (w := w) hf hk harr hfd
          obtain ⟨me, _, _, rfl, hv, _⟩ := h1
          injection hl with hl
          subst hl
          refine ⟨if ok then .tuple #[me.val, .bool true] else me.val, ?_, ?_⟩
          · cases ok with
            | true => simp [den, denL, hv]
            | false => exact hv
          · rw [run_bind, hck]
            simp only []
            rw [run_bind, h2]
            rfl
        · rename_i hfd
          obtain ⟨R, h1, h2⟩ := run_findKey (P := P) (w := w) hf hk harr hfd
          simp only [FRes] at h1
          subst h1
          split at hl
          · rename_i z hz
            obtain ⟨Z, hZ, rz⟩ := run_zeroA (P := P) (ν := ν) (w := w) hz
            injection hl with hl
            subst hl
            refine ⟨if ok then .tuple #[Z, .bool false] else Z, ?_, ?_⟩
            · cases ok with
              | true => simp [den, denL, hZ]
              | false => exact hZ
            · rw [run_bind, hck]
              simp only []
              rw [run_bind, h2]
              simp only []
              rw [run_bind, rz]
              rfl
          · cases hl
        · cases hl
      have body : ∀ (arr : Array MapEntry) (w' : World), ((do
          Instr.checkKey arr.isEmpty 10000 kt K
          let (v, ok') ← match ← Instr.findKey kt K arr.toList with
            | some (_, v) => pure (v, true)
            | none => pure (← zeroValue e, false)
          pure (if ok then .tuple #[v, .bool ok'] else v)) : Sem Value).run P w' = ((Instr.checkKey arr.isEmpty 10000 kt K).bind fun _ => (Instr.findKey kt K arr.toList).bind fun r =>
          match r with
          | some (_, v) => pure (if ok then .tuple #[v, .bool true] else v)
          | none => (zeroValue e).bind fun z => pure (if ok then .tuple #[z, .bool false] else z)).run P w' := fun arr w' => by
        simp only [bind]
        rw [run_bind, run_bind]
        split
        · rename_i a w'' _
          rw [run_bind, run_bind]
          split
          · rename_i r w3 _
            cases r with
            | none =>
              simp only [run_bind]
              cases (zeroValue e).run P w3 <;> rfl
            | some p => rfl
          · rfl
        · rfl
      rcases hM with ⟨rfl, rfl⟩ | ⟨g, rfl, hg⟩
      · unfold Instr.lookup
        simp only [bind]
        rw [run_bind, run_underlying hu]
        exact key (fun arr => _) (fun w' => body #[] w')
      · unfold Instr.lookup
        simp only [bind]
        rw [run_bind, run_underlying hu]
        simp only []
        rw [run_bind, run_getObj hg (by simp)]
        simp only []
        rw [run_bind]
        exact key (fun arr => _) (fun w' => body arr w')
    · cases hl
  · cases hl

theorem setEntry_rel {k v : AV} {K V : Value} (hk : den ν k = some K) (hv : den ν v = some V) : ∀ {es : List (AV × AV × Nat)} {ES : List MapEntry} (j : Nat), All2 (ERel ν) es ES → All2 (ERel ν) (setEntry k v es j) (ES.modify j fun e => { e with key := K, val := V })
  | [], [], j, _ => by cases j <;> exact trivial
  | (k', v', b) :: es, m :: ES, 0, h => ⟨⟨hk, hv, h.1.2.2⟩, h.2⟩
  | e :: es, m :: ES, j + 1, h => ⟨h.1, setEntry_rel hk hv j h.2⟩
  | [], _ :: _, _, hp => hp.elim
  | _ :: _, [], _, hp => hp.elim
theorem run_stays {old K : Value} (h : old = K) (hf : flatV K = true) : (Instr.keyThatStays old K).run P w = .ok K w := by
  subst h
  unfold Instr.keyThatStays
  rw [if_pos (sameBits_self hf)]
  rfl
theorem All2.push {es : List (AV × AV × Nat)} {arr : Array MapEntry} (h : All2 (ERel ν) es arr.toList) {e : AV × AV × Nat} {m : MapEntry} (he : ERel ν e m) : All2 (ERel ν) (es ++ [e]) (arr.push m).toList := by
  rw [Array.toList_push]
  exact All2.append h ⟨he, trivial⟩

theorem updateA_rel (h : WRel P w0 A ν s w) {t : TypeId} {m k v : AV} {M K V : Value} {s' : St} (hu : updateA P s t m k v = some s') (hm : den ν m = some M) (hk : den ν k = some K) (hv : den ν v = some V) : ∃ w', WRel P w0 A ν s' w' ∧ (Instr.mapUpdate t M K V).run P w = .ok () w' := by
  unfold updateA at hu
  split at hu
  · rename_i kt e i ht
    obtain ⟨g, hg, rfl⟩ := map_den hm
    split at hu
    · rename_i es c hf hi
      obtain ⟨arr, ho, harr⟩ := h.map_ hi hg
      have hck := fun b => run_checkKey (P := P) (w := w) (ν := ν) (b := b) (n := 9998) hf hk
      have run_ : (Instr.mapUpdate t (.map (some g)) K V).run P w = ((Instr.findKey kt K arr.toList).bind fun r => match r with
          | some (i, _) => (Instr.keyThatStays (((arr[i]?).map (·.key)).getD K) K).bind fun key => setObj g (.map (arr.modify i fun e => { e with key, val := V }) c)
          | none => setObj g (.map (arr.push { key := K, val := V, born := c }) (c + 1))).run P w := by
        unfold Instr.mapUpdate
        simp only [bind]
        rw [run_bind, run_underlying ht]
        simp only []
        rw [run_bind, run_getObj ho (by simp)]
        simp only []
        rw [run_bind, hck]
        rfl
      rw [run_]
      split at hu
      · rename_i j v' b hfd
        injection hu with hu
        subst hu
        obtain ⟨R, h1, h2⟩ := run_findKey (P := P) (w := w) hf hk harr hfd
        obtain ⟨me, _, hme, rfl, _, _, hsame⟩ := h1
        obtain ⟨e1, e2⟩ := hsame K hk
        refine ⟨_, h.putObj hi hg (o := .map (setEntry k v es j) c) (obj := .map (arr.modify j fun e => { e with key := K, val := V }) c) ⟨rfl, ?_⟩, ?_⟩
        · rw [Array.toList_modify]
          exact setEntry_rel hk hv j harr
        · rw [run_bind, h2]
          simp only []
          have : ((arr[j]?).map (·.key)).getD K = K := by
            rw [Nat.sub_zero] at hme
            have hme' : arr[j]? = some me := by simpa using hme
            rw [hme']
            exact e1
          rw [run_bind, run_stays this e2]
          exact run_setObj _ ho (by simp)
      · rename_i hfd
        injection hu with hu
        subst hu
        obtain ⟨R, h1, h2⟩ := run_findKey (P := P) (w := w) hf hk harr hfd
        simp only [FRes] at h1
        subst h1
        refine ⟨_, h.putObj hi hg (o := .map (es ++ [(k, v, c)]) (c + 1)) (obj := .map (arr.push { key := K, val := V, born := c }) (c + 1)) ⟨rfl, All2.push harr ⟨hk, hv, rfl⟩⟩, ?_⟩
        rw [run_bind, h2]
        exact run_setObj _ ho (by simp)
      · cases hu
    · cases hu
  · cases hu

theorem entryA_rel (h : WRel P w0 A ν s w) {t : TypeId} {m k v : AV} {M K : Value} {s' : St} (hu : entryA P s t m k = some (v, s')) (hm : den ν m = some M) (hk : den ν k = some K) : OpOk P w0 A ν s' v ((Instr.mapEntry t M K).run P w) := by
  unfold entryA at hu
  split at hu
  · rename_i kt e i ht
    obtain ⟨g, hg, rfl⟩ := map_den hm
    split at hu
    · rename_i es c z hf hi hz
      obtain ⟨arr, ho, harr⟩ := h.map_ hi hg
      obtain ⟨Z, hZ, rz⟩ := run_zeroA (P := P) (ν := ν) (w := w) hz
      have hck := fun b => run_checkKey (P := P) (w := w) (ν := ν) (b := b) (n := 9998) hf hk
      have run_ : (Instr.mapEntry t (.map (some g)) K).run P w = ((Instr.findKey kt K arr.toList).bind fun r => match r with
          | some (i, v) => (Instr.keyThatStays (((arr[i]?).map (·.key)).getD K) K).bind fun key => (setObj g (.map (arr.modify i fun e => { e with key }) c)).bind fun _ => pure (.tuple #[v, goInt (((arr[i]?).map (·.born)).getD 0)])
          | none => (zeroValue e).bind fun zero => (setObj g (.map (arr.push { key := K, val := zero, born := c }) (c + 1))).bind fun _ => pure (.tuple #[zero, goInt c])).run P w := by
        unfold Instr.mapEntry
        simp only [bind]
        rw [run_bind, run_underlying ht]
        simp only []
        rw [run_bind, run_getObj ho (by simp)]
        simp only []
        rw [run_bind, hck]
        rfl
      rw [run_]
      split at hu
      · rename_i j v' b hfd
        simp only [Option.some.injEq, Prod.mk.injEq] at hu
        obtain ⟨rfl, rfl⟩ := hu
        obtain ⟨R, h1, h2⟩ := run_findKey (P := P) (w := w) hf hk harr hfd
        obtain ⟨me, _, hme, rfl, hv', hb, hsame⟩ := h1
        obtain ⟨e1, e2⟩ := hsame K hk
        rw [Nat.sub_zero] at hme
        have hme' : arr[j]? = some me := by simpa using hme
        refine ⟨ν, .tuple #[me.val, goInt b], _, Nm.le.refl _, h.putObj hi hg (o := .map (setEntry k v' es j) c) (obj := .map (arr.modify j fun e => { e with key := K }) c) ⟨rfl, ?_⟩, by simp [den, denL, hv', i64, goInt], ?_⟩
        · rw [Array.toList_modify]
          have := setEntry_rel hk hv' j harr
          have e : ∀ (L : List MapEntry) (j : Nat), L[j]? = some me → (L.modify j fun e => { e with key := K, val := me.val }) = (L.modify j fun e => { e with key := K }) := fun L => by
            induction L with
            | nil => intro j hj; simp at hj
            | cons m L ih =>
              intro j hj
              cases j with
              | zero => simp at hj; subst hj; rfl
              | succ j => simp only [List.modify_succ_cons]; rw [ih j (by simpa using hj)]
          rw [e arr.toList j hme] at this
          exact this
        · rw [run_bind, h2]
          simp only []
          have : ((arr[j]?).map (·.key)).getD K = K := by rw [hme']; exact e1
          rw [run_bind, run_stays this e2]
          simp only []
          rw [run_bind, run_setObj _ ho (by simp)]
          simp only [hme', Option.map_some, Option.getD_some, hb]
          rfl
      · rename_i hfd
        simp only [Option.some.injEq, Prod.mk.injEq] at hu
        obtain ⟨rfl, rfl⟩ := hu
        obtain ⟨R, h1, h2⟩ := run_findKey (P := P) (w := w) hf hk harr hfd
        simp only [FRes] at h1
        subst h1
        refine ⟨ν, .tuple #[Z, goInt c], _, Nm.le.refl _, h.putObj hi hg (o := .map (es ++ [(k, z, c)]) (c + 1)) (obj := .map (arr.push { key := K, val := Z, born := c }) (c + 1)) ⟨rfl, All2.push harr ⟨hk, hZ, rfl⟩⟩, by simp [den, denL, hZ, i64, goInt], ?_⟩
        rw [run_bind, h2]
        simp only []
        rw [run_bind, rz]
        simp only []
        rw [run_bind, run_setObj _ ho (by simp)]
        rfl
      · cases hu
    · cases hu
  · cases hu

theorem putBorn_rel {v : AV} {V : Value} {b : Nat} (hv : den ν v = some V) : ∀ {es es' : List (AV × AV × Nat)} {ES : List MapEntry}, All2 (ERel ν) es ES → putBorn v b es = some es' →
    ∃ j, ES.findIdx? (fun e => (e.born : Int) == (b : Int)) = some j ∧ All2 (ERel ν) es' (ES.modify j fun e => { e with val := V })
  | [], _, _, _, h => by simp [putBorn] at h
  | (k, v', b') :: es, es', [], hp, _ => hp.elim
  | (k, v', b') :: es, es', m :: ES, hp, h => by
    simp only [putBorn] at h
    have hb : b' = m.born := hp.1.2.2
    split at h
    · rename_i hq
      have hq := Nat.eq_of_beq_eq_true hq
      injection h with h
      subst h
      refine ⟨0, ?_, ⟨hp.1.1, hv, hp.1.2.2⟩, hp.2⟩
      rw [List.findIdx?_cons]
      have : ((m.born : Int) == (b : Int)) = true := by rw [← hb, hq]; simp
      rw [this]
      rfl
    · rename_i hq
      have hq := Nat.ne_of_beq_eq_false hq
      split at h
      · rename_i r hr
        injection h with h
        subst h
        obtain ⟨j, h1, h2⟩ := putBorn_rel hv hp.2 hr
        refine ⟨j + 1, ?_, hp.1, h2⟩
        rw [List.findIdx?_cons]
        have : ((m.born : Int) == (b : Int)) = false := by rw [← hb]; simp; omega
        rw [this, h1]
        rfl
      · cases h
theorem entryStoreA_rel (h : WRel P w0 A ν s w) {t : TypeId} {m b v : AV} {M B V : Value} {s' : St} (hu : entryStoreA s m b v = some s') (hm : den ν m = some M) (hb : den ν b = some B) (hv : den ν v = some V) : ∃ w', WRel P w0 A ν s' w' ∧ (Instr.entryStore t M B V).run P w = .ok () w' := by
  unfold entryStoreA at hu
  split at hu
  · rename_i i n hn
    obtain ⟨g, hg, rfl⟩ := map_den hm
    obtain ⟨kk, rfl⟩ := natOf_spec hn
    simp only [den, Option.some.injEq] at hb
    subst hb
    split at hu
    · rename_i es c hi
      obtain ⟨arr, ho, harr⟩ := h.map_ hi hg
      split at hu
      · rename_i es' hp
        injection hu with hu
        subst hu
        obtain ⟨j, h1, h2⟩ := putBorn_rel hv harr hp
        have h1' : arr.findIdx? (fun e => (e.born : Int) == (n : Int)) = some j := by
          have := List.findIdx?_toArray (p := fun e : MapEntry => (e.born : Int) == (n : Int)) (l := arr.toList)
          rw [Array.toArray_toList] at this
          exact this.trans h1
        refine ⟨_, h.putObj hi hg (o := .map es' c) (obj := .map (arr.modify j fun e => { e with val := V }) c) ⟨rfl, by rw [Array.toList_modify]; exact h2⟩, ?_⟩
        unfold Instr.entryStore
        simp only [bind]
        rw [run_bind, run_getObj ho (by simp)]
        simp only []
        rw [run_bind]
        show (match arr.findIdx? (fun e => (e.born : Int) == (n : Int)) with | some i => _ | none => _ : Sem Unit).run P w = _
        rw [h1']
        exact run_setObj _ ho (by simp)
      · cases hu
    · cases hu
  · cases hu
theorem deleteA_rel (h : WRel P w0 A ν s w) {t tx ty : TypeId} {m k : AV} {M K : Value} {s' : St} (hu : deleteA P s t m k = some s') (hm : den ν m = some M) (hk : den ν k = some K) : OpOk P w0 A ν s' undA ((Builtin.delete_ #[t, tx] ty #[M, K]).run P w) := by
  unfold deleteA at hu
  split at hu
  · rename_i kt e ht
    split at hu
    · rename_i hf
      injection hu with hu
      subst hu
      simp only [den, Option.some.injEq] at hm
      subst hm
      refine ⟨ν, .tuple #[], w, Nm.le.refl _, h, rfl, ?_⟩
      unfold Builtin.delete_
      simp only [List.getElem?_toArray, List.getElem?_cons_zero, List.getElem?_cons_succ, bind]
      rw [run_bind, run_underlying ht]
      simp only []
      rw [run_bind, run_checkKey (n := 9998) hf hk]
      rfl
    · cases hu
  · rename_i kt e i ht
    obtain ⟨g, hg, rfl⟩ := map_den hm
    split at hu
    · rename_i es c hf hi
      obtain ⟨arr, ho, harr⟩ := h.map_ hi hg
      have hck := fun b => run_checkKey (P := P) (w := w) (ν := ν) (b := b) (n := 9998) hf hk
      have run_ : (Builtin.delete_ #[t, tx] ty #[.map (some g), K]).run P w = ((Instr.findKey kt K arr.toList).bind fun r => match r with
          | some (i, _) => (setObj g (.map (arr.eraseIdxIfInBounds i) c)).bind fun _ => pure (.tuple #[])
          | none => (setObj g (.map arr c)).bind fun _ => pure (.tuple #[])).run P w := by
        unfold Builtin.delete_
        simp only [List.getElem?_toArray, List.getElem?_cons_zero, List.getElem?_cons_succ, bind]
        rw [run_bind, run_underlying ht]
        simp only []
        rw [run_bind, run_getObj ho (by simp)]
        simp only []
        rw [run_bind, hck]
        rfl
      rw [run_]
      split at hu
      · rename_i j v' b hfd
        injection hu with hu
        subst hu
        obtain ⟨R, h1, h2⟩ := run_findKey (P := P) (w := w) hf hk harr hfd
        obtain ⟨me, _, hme, rfl, _⟩ := h1
        refine ⟨ν, .tuple #[], _, Nm.le.refl _, h.putObj hi hg (o := .map (es.eraseIdx j) c) (obj := .map (arr.eraseIdxIfInBounds j) c) ⟨rfl, ?_⟩, rfl, ?_⟩
        · have e : ∀ {es : List (AV × AV × Nat)} {ES : List MapEntry} (j : Nat), All2 (ERel ν) es ES → All2 (ERel ν) (es.eraseIdx j) (ES.eraseIdx j) := fun {es} => by
            induction es with
            | nil => intro ES j h; cases ES with | nil => cases j <;> exact trivial | cons _ _ => exact h.elim
            | cons x es ih =>
              intro ES j h
              cases ES with
              | nil => exact h.elim
              | cons y ES =>
                cases j with
                | zero => exact h.2
                | succ j => exact ⟨h.1, ih j h.2⟩
          have hlt : j < arr.size := by
            rw [Nat.sub_zero] at hme
            have := (List.getElem?_eq_some_iff.1 hme).1
            simpa using this
          unfold Array.eraseIdxIfInBounds
          rw [dif_pos hlt, Array.toList_eraseIdx]
          exact e j harr
        · rw [run_bind, h2]
          simp only []
          rw [run_bind, run_setObj _ ho (by simp)]
          rfl
      · rename_i hfd
        injection hu with hu
        subst hu
        obtain ⟨R, h1, h2⟩ := run_findKey (P := P) (w := w) hf hk harr hfd
        simp only [FRes] at h1
        subst h1
        refine ⟨ν, .tuple #[], _, Nm.le.refl _, h.putObj hi hg (o := .map es c) (obj := .map arr c) ⟨rfl, harr⟩, rfl, ?_⟩
        rw [run_bind, h2]
        simp only []
        rw [run_bind, run_setObj _ ho (by simp)]
        rfl
      · cases hu
    · cases hu
  · cases hu

/-! ### walks over maps -/
theorem WRel.iter_ (h : WRel P w0 A ν s w) {i g : Nat} {m : Option Nat} {since stepped : Nat} {seen : List Nat} (hi : s.h.get i = some (.iter m since seen stepped)) (hg : ν i = some g) : ∃ m' sn, w.heap[g]? = some (.mapIter m' since sn stepped) ∧ optN ν m m' ∧ sn.toList = seen := by
  obtain ⟨obj, h1, h2⟩ := h.at_ hi hg
  cases obj <;> simp only [ORel] at h2 <;> try exact h2.elim
  obtain ⟨h3, rfl, h4, rfl⟩ := h2
  exact ⟨_, _, h1, h3, h4⟩
theorem All2.filter {α β : Type} {R : α → β → Prop} {p : α → Bool} {q : β → Bool} (hpq : ∀ a b, R a b → p a = q b) : ∀ {l : List α} {m : List β}, All2 R l m → All2 R (l.filter p) (m.filter q)
  | [], [], _ => trivial
  | a :: l, b :: m, h => by
    rw [List.filter_cons, List.filter_cons, hpq a b h.1]
    split
    · exact ⟨h.1, All2.filter hpq h.2⟩
    · exact All2.filter hpq h.2
  | [], _ :: _, hp => hp.elim
  | _ :: _, [], hp => hp.elim
theorem All2.all {α β : Type} {R : α → β → Prop} {p : α → Bool} {q : β → Bool} (hpq : ∀ a b, R a b → p a = q b) : ∀ {l : List α} {m : List β}, All2 R l m → l.all p = m.all q
  | [], [], _ => rfl
  | a :: l, b :: m, h => by rw [List.all_cons, List.all_cons, hpq a b h.1, All2.all hpq h.2]
  | [], _ :: _, hp => hp.elim
  | _ :: _, [], hp => hp.elim
theorem any_beq (l : List Nat) (b : Nat) : l.any (Nat.beq b) = l.contains b := by
  induction l with
  | nil => rfl
  | cons x l ih =>
    rw [List.any_cons, List.contains_cons, ih]
    congr 1
    rw [Bool.eq_iff_iff]
    simp [Nat.beq_eq]

theorem rangeA_rel (h : WRel P w0 A ν s w) {t : TypeId} {x v : AV} {X : Value} {s' : St} (hu : rangeA P s t x = some (v, s')) (hx : den ν x = some X) : OpOk P w0 A ν s' v ((Instr.range t X).run P w) := by
  have hk := h.top s.n (Nat.le_refl _)
  unfold rangeA at hu
  split at hu
  · rename_i kt e ht
    simp only [Option.some.injEq, Prod.mk.injEq] at hu
    obtain ⟨rfl, rfl⟩ := hu
    simp only [den, Option.some.injEq] at hx
    subst hx
    have hw := h.alloc (n' := s.n + 1) (o := .iter none 0 [] 0) (obj := .mapIter none 0 #[] 0) hk (by omega) (by omega) ⟨rfl, rfl, rfl, rfl⟩
    refine ⟨_, .pointer (some ⟨w.heap.size, 0, none⟩), _, Nm.le_set hk _, hw, by simp only [den, Nm.set_same], ?_⟩
    unfold Instr.range
    simp only [bind]
    rw [run_bind, run_underlying ht]
    rfl
  · rename_i kt e i ht
    split at hu
    · rename_i es c hi
      simp only [Option.some.injEq, Prod.mk.injEq] at hu
      obtain ⟨rfl, rfl⟩ := hu
      obtain ⟨g, hg, rfl⟩ := map_den hx
      obtain ⟨arr, ho, harr⟩ := h.map_ hi hg
      have hw := h.alloc (n' := s.n + 1) (o := .iter (some i) c [] c) (obj := .mapIter (some g) c #[] c) hk (by omega) (by omega) ⟨⟨g, Nm.le_set hk _ _ _ hg, rfl⟩, rfl, rfl, rfl⟩
      refine ⟨_, .pointer (some ⟨w.heap.size, 0, none⟩), _, Nm.le_set hk _, hw, by simp only [den, Nm.set_same], ?_⟩
      unfold Instr.range
      simp only [bind]
      rw [run_bind, run_underlying ht]
      simp only []
      rw [run_bind, run_getObj ho (by simp)]
      rfl
    · cases hu
  · cases hu
end

end Go.Proofs.YtlijlapkhimaoaaGreatDoor
