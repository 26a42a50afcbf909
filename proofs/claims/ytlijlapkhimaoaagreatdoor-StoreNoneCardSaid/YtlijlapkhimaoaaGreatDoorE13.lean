/- The evaluator, 13: what reads; calls. No program in sight. -/
import Derived.Test.YtlijlapkhimaoaaGreatDoorE12
namespace Go.Proofs.YtlijlapkhimaoaaGreatDoor
open Go Go.RowKit

theorem GlobOk.keep {ν : Nm} {gl : List (Nat × List AV)} {w w' : World} (h : GlobOk ν gl w) (hk : ∀ g, g < w.heap.size → w'.heap[g]? = w.heap[g]?) : GlobOk ν gl w' := fun g l hg i v hv => by
  obtain ⟨V, h1, h2⟩ := h g l hg i v hv
  have hlt := World.block_lt_of_cell? w _ h2
  exact ⟨V, h1, by rw [World.cell?_of_block (w := w) (hk g hlt)]; exact h2⟩
theorem WRel.glob {P : Program} {w0 w : World} {A : Anch} {ν : Nm} {s : St} (h : WRel P w0 A ν s w) : GlobOk ν s.x.gl w := h.ctx.gl.keep fun g hg => h.keep.block g hg (by simp)

/-- what is known of the things that D names -/
structure RRel (P : Program) (ν : Nm) (s : St) (D : Nat → Prop) (w : World) : Prop where
  f : ∀ i o, D i → s.h.get i = some o → ∃ g obj, ν i = some g ∧ w.heap[g]? = some obj ∧ ORel P ν o obj
  g : (∀ i, D i) → GlobOk ν s.x.gl w
theorem WRel.rrel {P : Program} {w0 w : World} {A : Anch} {ν : Nm} {s : St} (h : WRel P w0 A ν s w) : RRel P ν s (fun _ => True) w := ⟨fun i o _ hi => by
  obtain ⟨g, obj, h1, _, h3, h4⟩ := h.objs i o hi
  exact ⟨g, obj, h1, h3, h4⟩, fun _ => h.glob⟩

theorem findG_mem {g : Nat} : ∀ {gl : List (Nat × List AV)} {l : List AV}, findG g gl = some l → (g, l) ∈ gl
  | [], _, h => by cases h
  | (k, m) :: r, l, h => by
    unfold findG at h
    split at h
    · rename_i hb
      injection h with h
      subst h
      rw [Nat.eq_of_beq_eq_true hb]
      exact List.mem_cons_self ..
    · exact List.mem_cons_of_mem _ (findG_mem h)
theorem denL_of {ν : Nm} {w : World} {g : Nat} : ∀ (l : List AV) (k : Nat), (∀ i v, l[i]? = some v → ∃ V, den ν v = some V ∧ w.cell? ⟨g, k + i, none⟩ = some V) → ∃ L, denL ν l = some L ∧ ∀ i V, L[i]? = some V → w.cell? ⟨g, k + i, none⟩ = some V
  | [], k, _ => ⟨[], rfl, fun i V h => by simp at h⟩
  | v :: l, k, h => by
    obtain ⟨V, h1, h2⟩ := h 0 v rfl
    obtain ⟨L, h3, h4⟩ := denL_of l (k + 1) fun i u hu => by
      obtain ⟨U, h5, h6⟩ := h (i + 1) u (by simpa using hu)
      exact ⟨U, h5, by rw [show k + 1 + i = k + (i + 1) by omega]; exact h6⟩
    refine ⟨V :: L, denL_mk h1 h3, fun i U hU => ?_⟩
    cases i with
    | zero => simp at hU; subst hU; exact h2
    | succ i => rw [show k + (i + 1) = k + 1 + i by omega]; exact h4 i U (by simpa using hU)

section
variable {P : Program} {w0 w : World} {A : Anch} {ν : Nm} {s : St} {T : Tr AV} {N : Nat} {a : Act} {D : Nat → Prop}

theorem RRel.at_ (h : RRel P ν s D w) {i g : Nat} {o : AObj} (hD : D i) (hi : s.h.get i = some o) (hg : ν i = some g) : ∃ obj, w.heap[g]? = some obj ∧ ORel P ν o obj := by
  obtain ⟨g', obj, h1, h3, h4⟩ := h.f i o hD hi
  rw [hg] at h1
  injection h1 with h1
  subst h1
  exact ⟨obj, h3, h4⟩
theorem RRel.blk (h : RRel P ν s D w) {i g : Nat} {l : List AV} {t : TypeId} {c : Option Nat} (hD : D i) (hi : s.h.get i = some (.cells l t c)) (hg : ν i = some g) : ∃ L R, denL ν l = some L ∧ Blk w g t (L ++ R).toArray := by
  obtain ⟨obj, h1, h2⟩ := h.at_ hD hi hg
  cases obj <;> simp only [ORel] at h2 <;> try exact h2.elim
  obtain ⟨rfl, hfz, L, R, h3, h4, h5⟩ := h2
  exact ⟨L, R, h3, _, by rw [h1, ← h4], by rw [← h4]; exact hfz⟩
theorem RRel.map_ (h : RRel P ν s D w) {i g : Nat} {es : List (AV × AV × Nat)} {c : Nat} (hD : D i) (hi : s.h.get i = some (.map es c)) (hg : ν i = some g) : ∃ arr, w.heap[g]? = some (.map arr c) ∧ All2 (ERel ν) es arr.toList := by
  obtain ⟨obj, h1, h2⟩ := h.at_ hD hi hg
  cases obj <;> simp only [ORel] at h2 <;> try exact h2.elim
  obtain ⟨rfl, h2⟩ := h2
  exact ⟨_, h1, h2⟩
theorem RRel.iter_ (h : RRel P ν s D w) {i g : Nat} {m : Option Nat} {since stepped : Nat} {seen : List Nat} (hD : D i) (hi : s.h.get i = some (.iter m since seen stepped)) (hg : ν i = some g) : ∃ m' sn, w.heap[g]? = some (.mapIter m' since sn stepped) ∧ optN ν m m' ∧ sn.toList = seen := by
  obtain ⟨obj, h1, h2⟩ := h.at_ hD hi hg
  cases obj <;> simp only [ORel] at h2 <;> try exact h2.elim
  obtain ⟨h3, rfl, h4, rfl⟩ := h2
  exact ⟨_, _, h1, h3, h4⟩

theorem load_R (h : RRel P ν s D w) {t : TypeId} {i off g : Nat} {v : AV} (hD : D i) (hl : loadA P s t i off = some v) (hg : ν i = some g) : ∃ V, den ν v = some V ∧ (loadVar t ⟨g, off, none⟩).run P w = .ok V w := by
  unfold loadA at hl
  split at hl
  · rename_i l t' c hi
    obtain ⟨L, R, hL, hb⟩ := h.blk hD hi hg
    obtain ⟨V, h1, h2⟩ := partA_load (R := R) hL hl
    exact ⟨V, h1, run_loadVar hb h2⟩
  · cases hl
theorem loadG_R (h : GlobOk ν s.x.gl w) {t : TypeId} {g off : Nat} {v : AV} (hl : loadG P s t g off = some v) : ∃ V, den ν v = some V ∧ (loadVar t ⟨g, off, none⟩).run P w = .ok V w := by
  unfold loadG at hl
  split at hl
  · rename_i l hf
    obtain ⟨L, hL, hc⟩ := denL_of l 0 fun i v hv => by
      obtain ⟨V, h1, h2⟩ := h g l (findG_mem hf) i v hv
      exact ⟨V, h1, by rw [Nat.zero_add]; exact h2⟩
    obtain ⟨V, h1, h2⟩ := partA_load (R := []) hL hl
    rw [List.append_nil] at h2
    exact ⟨V, h1, run_loadVar_cells (fun j V hj => by have := hc j V hj; rwa [Nat.zero_add] at this) h2⟩
  · cases hl
theorem mapOf_R (h : RRel P ν s D w) {m : AV} {M : Value} {es : List (AV × AV × Nat)} {c : Nat} (hD : ∀ i, m = .map i → D i) (hm : den ν m = some M) (ho : mapOf s m = some (es, c)) : ∃ arr : Array MapEntry, All2 (ERel ν) es arr.toList ∧
    ((M = .map none ∧ arr = #[]) ∨ ∃ g, M = .map (some g) ∧ w.heap[g]? = some (.map arr c)) := by
  unfold mapOf at ho
  split at ho
  · simp only [Option.some.injEq, Prod.mk.injEq] at ho
    simp only [den, Option.some.injEq] at hm
    obtain ⟨rfl, rfl⟩ := ho
    subst hm
    exact ⟨#[], trivial, .inl ⟨rfl, rfl⟩⟩
  · rename_i i
    split at ho
    · rename_i es' c' hi
      simp only [Option.some.injEq, Prod.mk.injEq] at ho
      obtain ⟨rfl, rfl⟩ := ho
      obtain ⟨g, hg, rfl⟩ := map_den hm
      obtain ⟨arr, h1, h2⟩ := h.map_ (hD i rfl) hi hg
      exact ⟨arr, h2, .inr ⟨g, rfl, h1⟩⟩
    · cases ho
  · cases ho
/-- out of the entries alone -/
theorem lookup_R (h : RRel P ν s D w) {t : TypeId} {m k v : AV} {M K : Value} {ok : Bool} (hD : ∀ i, m = .map i → D i) (hl : lookupA P s t m k ok = some v) (hm : den ν m = some M) (hk : den ν k = some K) : ∃ V, den ν v = some V ∧ (Instr.lookup t M K ok).run P w = .ok V w := by
  unfold lookupA at hl
  split at hl
  · rename_i kt e hu
    split at hl
    · rename_i es c hf hes
      obtain ⟨arr, harr, hM⟩ := mapOf_R (P := P) h hD hm hes
      have hck := fun b => run_checkKey (P := P) (w := w) (ν := ν) (b := b) (n := 9998) hf hk
      have key : ∀ (F : Array MapEntry → Sem Value), (∀ w', (F arr).run P w' = ((Instr.checkKey arr.isEmpty 10000 kt K).bind fun _ => (Instr.findKey kt K arr.toList).bind fun r =>
          match r with
          | some (_, v) => pure (if ok then .tuple #[v, .bool true] else v)
          | none => (zeroValue e).bind fun z => pure (if ok then .tuple #[z, .bool false] else z)).run P w') → ∃ V, den ν v = some V ∧ (F arr).run P w = .ok V w := fun F hF => by
        rw [hF]
        split at hl
        · rename_i j v' b hfd
          obtain ⟨R, h1, h2⟩ := run_findKey (P := P) (w := w) hf hk harr hfd
          obtain ⟨me, _, _, rfl, hv, _⟩ := h1
          injection hl with hl
          subst hl
          refine ⟨if ok then .tuple #[me.val, .bool true] else me.val, ?_, ?_⟩
          · cases ok with
            | true => simp [den, denL, hv]
            | false => exact hv
          · rw [run_bind, hck]
            simp only []
            rw [run_bind, h2]
            rfl
        · rename_i hfd
          obtain ⟨R, h1, h2⟩ := run_findKey (P := P) (w := w) hf hk harr hfd
          simp only [FRes] at h1
          subst h1
          split at hl
          · rename_i z hz
            obtain ⟨Z, hZ, rz⟩ := run_zeroA (P := P) (ν := ν) (w := w) hz
            injection hl with hl
            subst hl
            refine ⟨if ok then .tuple #[Z, .bool false] else Z, ?_, ?_⟩
            · cases ok with
              | true => simp [den, denL, hZ]
              | false => exact hZ
            · rw [run_bind, hck]
              simp only []
              rw [run_bind, h2]
              simp only []
              rw [run_bind, rz]
              rfl
          · cases hl
        · cases hl
      have body : ∀ (arr : Array MapEntry) (w' : World), ((do
          Instr.checkKey arr.isEmpty 10000 kt K
          let (v, ok') ← match ← Instr.findKey kt K arr.toList with
            | some (_, v) => pure (v, true)
            | none => pure (← zeroValue e, false)
          pure (if ok then .tuple #[v, .bool ok'] else v)) : Sem Value).run P w' = ((Instr.checkKey arr.isEmpty 10000 kt K).bind fun _ => (Instr.findKey kt K arr.toList).bind fun r =>
          match r with
          | some (_, v) => pure (if ok then .tuple #[v, .bool true] else v)
          | none => (zeroValue e).bind fun z => pure (if ok then .tuple #[z, .bool false] else z)).run P w' := fun arr w' => by
        simp only [bind]
        rw [run_bind, run_bind]
        split
        · rename_i a w'' _
          rw [run_bind, run_bind]
          split
          · rename_i r w3 _
            cases r with
            | none =>
              simp only [run_bind]
              cases (zeroValue e).run P w3 <;> rfl
            | some p => rfl
          · rfl
        · rfl
      rcases hM with ⟨rfl, rfl⟩ | ⟨g, rfl, hg⟩
      · unfold Instr.lookup
        simp only [bind]
        rw [run_bind, run_underlying hu]
        exact key (fun arr => _) (fun w' => body #[] w')
      · unfold Instr.lookup
        simp only [bind]
        rw [run_bind, run_underlying hu]
        simp only []
        rw [run_bind, run_getObj hg (by simp)]
        simp only []
        rw [run_bind]
        exact key (fun arr => _) (fun w' => body arr w')
    · cases hl
  · cases hl
theorem entry_R (h : RRel P ν s (fun _ => True) w) {it v : AV} {IT : Value} (hn : entryAt s it = some v) (hi : den ν it = some IT) : ∃ V, den ν v = some V ∧ (Instr.entry IT).run P w = .ok V w := by
  unfold entryAt at hn
  split at hn
  · rename_i i
    obtain ⟨g, hg, rfl⟩ := ptr_den hi
    split at hn
    · rename_i m since seen stepped hit
      obtain ⟨m', sn, ho, hm, hsn⟩ := h.iter_ trivial hit hg
      obtain ⟨gm, hgm, rfl⟩ := hm
      split at hn
      · rename_i b es clock hb hmap
        obtain ⟨arr, hom, harr⟩ := h.map_ trivial hmap hgm
        split at hn
        · rename_i hc
          have hc := Nat.eq_of_beq_eq_true hc
          subst hc
          rw [Option.map_eq_some_iff] at hn
          obtain ⟨⟨k, v'⟩, hf, rfl⟩ := hn
          obtain ⟨me, h1, h2, h3⟩ := findBorn_rel harr hf
          refine ⟨.tuple #[me.key, me.val], by simp [den, denL, h2, h3], ?_⟩
          have hback : sn.back? = some b := by
            rw [lastL_eq, ← hsn, Array.getLast?_toList] at hb
            exact hb
          have hfind : arr.find? (fun e => e.born == b) = some me := by rw [← Array.find?_toList]; exact h1
          unfold Instr.entry
          simp only [bind]
          rw [run_bind, run_getObj ho (by simp)]
          simp only [hback]
          rw [run_bind, run_getObj hom (by simp)]
          simp only [bne_self_eq_false, Bool.false_eq_true, if_false, hfind]
          rfl
        · cases hn
      · cases hn
    · cases hn
  · cases hn
theorem len_R (h : RRel P ν s D w) {t ty kt e : TypeId} {x v : AV} {X : Value} (hD : ∀ i, x = .map i → D i) (hu : P.underlying t = some (.map kt e)) (hl : lenT P s (.map kt e) x = some v) (hx : den ν x = some X) (rest : List TypeId) :
    ∃ V, den ν v = some V ∧ (Builtin.len_ (t :: rest).toArray ty #[X]).run P w = .ok V w := by
  have start : ∀ {f : TypeDesc → Sem Value} {V : Value}, (f (.map kt e)).run P w = .ok V w → (Sem.bind (underlying t) f).run P w = .ok V w := fun hf => by rw [run_bind, run_underlying hu]; exact hf
  unfold Builtin.len_
  simp only [List.getElem?_toArray, List.getElem?_cons_zero, bind]
  cases x <;> simp only [lenT] at hl <;> (try (cases hl; done))
  · injection hl with hl
    simp only [den, Option.some.injEq] at hx
    subst hx hl
    exact ⟨_, rfl, start rfl⟩
  · rename_i i
    obtain ⟨g, hg, rfl⟩ := map_den hx
    split at hl
    · rename_i es c hi
      injection hl with hl
      subst hl
      obtain ⟨arr, ho, harr⟩ := h.map_ (hD i rfl) hi hg
      refine ⟨_, rfl, start ?_⟩
      simp only []
      rw [run_bind, run_getObj ho (by simp)]
      have := harr.length
      simp only [Array.length_toList] at this
      rw [this]
      rfl
    · cases hl

theorem bytes_push : ∀ (cs : List AV) (bs : List UInt8) (CS : List Value), bytesOf cs = some bs → denL ν cs = some CS → ∀ (s0 : ByteArray) (w : World),
    Sem.run P (forIn CS s0 fun (c : Value) (s : ByteArray) => match c with
      | Value.int IntKind.u8 n => (pure (ForInStep.yield (s.push (UInt8.ofNat n.toNat))) : Sem (ForInStep ByteArray))
      | _ => (stuck "bytesToString: byte expected").bind fun _ : PUnit => pure (ForInStep.yield s)) w = Result.ok (ByteArray.mk (s0.data.toList ++ bs).toArray) w
  | [], bs, CS, h, hd, s0, w => by
    simp only [bytesOf, mapO, Option.some.injEq] at h
    subst h
    rw [denL_nil hd]
    simp only [List.forIn_nil, List.append_nil]
    rfl
  | c :: cs, bs, CS, h, hd, s0, w => by
    obtain ⟨V, R, v1, v2, rfl⟩ := denL_cons hd
    unfold bytesOf at h
    simp only [mapO] at h
    split at h
    · cases h
    · rename_i y hy
      split at h
      · cases h
      · rename_i r hr
        injection h with h
        subst h
        split at hy
        · rename_i n
          injection hy with hy
          subst hy
          simp only [den, Option.some.injEq] at v1
          subst v1
          rw [List.forIn_cons]
          show (Sem.bind _ _).run P w = _
          rw [run_bind]
          have ih := bytes_push cs r R hr v2 (s0.push (UInt8.ofNat n)) w
          simp only [Int.ofNat_eq_natCast, Int.toNat_natCast, pure, Sem.run]
          rw [show (s0.data.toList ++ UInt8.ofNat n :: r) = ((s0.push (UInt8.ofNat n)).data.toList ++ r) by simp [ByteArray.push]]
          exact ih
        · cases hy
theorem cells_R (h : RRel P ν s D w) {x : AV} {X : Value} {cs : List AV} (hD : ∀ i off n c, x = .slice i off n c → D i) (hx : den ν x = some X) (hc : cellsOfSlice s 1 x = some cs) {bs : List UInt8} (hb : bytesOf cs = some bs) (hns : ∀ b, x ≠ .str b) : (Conv.bytesToString X).run P w = .ok (.string ⟨bs.toArray⟩) w := by
  cases x <;> simp only [cellsOfSlice] at hc <;> try (cases hc; done)
  case nslice =>
    simp only [den, Option.some.injEq] at hx hc
    subst hx hc
    simp only [bytesOf, mapO, Option.some.injEq] at hb
    subst hb
    rfl
  case slice i off len c =>
    obtain ⟨g, C, hg, hC, hle, rfl⟩ := slice_den hx
    split at hc
    · rename_i l t c' hi
      obtain ⟨L, R, hL, hbk⟩ := h.blk (hD _ _ _ _ rfl) hi hg
      obtain ⟨h1, h2⟩ := denL_cut hL hc
      simp only [Nat.mul_one] at h1 h2
      have hload : (loadCells ⟨g, off, none⟩ len).run P w = .ok (((L.drop off).take len)).toArray w := by
        have := run_firstCells_some (P := P) w 1 len ⟨g, off, none⟩ len C ((L.drop off).take len) (by simpa using h2) (fun j u hj => by
          rw [addr_add, hbk.cell]
          rw [List.getElem?_take] at hj
          split at hj
          · rw [List.getElem?_drop] at hj
            simp only [List.getElem?_toArray]
            rw [List.getElem?_append_left (List.getElem?_eq_some_iff.1 hj).1]
            exact hj
          · cases hj)
        simpa [Builtin.firstCells] using this
      unfold Conv.bytesToString
      simp only [bind]
      rw [run_bind, hload]
      simp only []
      rw [run_bind]
      have := bytes_push (P := P) cs bs _ hb h1 ByteArray.empty w
      rw [show (ByteArray.empty.data.toList ++ bs) = bs from rfl] at this
      rw [List.forIn_toArray]
      erw [this]
      rfl
    · cases hc
  case str b => exact absurd rfl (hns b)

/-- what reads, out of the things that D names -/
theorem read_R {o : Oper} (hF : FRel ν T N a.tmps) (hk : kindA P o.op = 1) (h : RRel P ν s D w) (hD : (∀ k, targetA T o.op = some k → D k) ∧ (targetA T o.op = none → ∀ i, D i)) {v : AV} (hp : pureA P s T o.op = some v) : ∃ V, den ν v = some V ∧ (execOp a.eval o).run P w = .ok (.value V) w := by
  have fin : ∀ {x : Sem Value}, (∃ V, den ν v = some V ∧ x.run P w = .ok V w) → (execOp a.eval o = Sem.bind x fun v => Sem.pure (Next.value v)) → ∃ V, den ν v = some V ∧ (execOp a.eval o).run P w = .ok (.value V) w := fun ⟨V, h1, h2⟩ e => ⟨V, h1, by rw [e]; exact run_val h2⟩
  obtain ⟨hD1, hD2⟩ := hD
  cases hop : o.op <;> rw [hop] at hp hk hD1 hD2 <;> simp only [kindA] at hk <;> (try (cases hk; done))
  case load t x =>
    simp only [pureA] at hp
    split at hp
    · rename_i i off hx
      obtain ⟨g, hg, e⟩ := ptr_den (hF.evA hx)
      obtain ⟨V, h1, h2⟩ := load_R h (hD1 i (by simp only [targetA, hx])) hp hg
      refine fin (x := Instr.loadAt t (a.eval x)) ⟨V, h1, ?_⟩ (by unfold execOp; rw [hop]; rfl)
      rw [e]
      exact h2
    · rename_i g off hx
      have e := hF.evA hx
      simp only [den, Option.some.injEq] at e
      obtain ⟨V, h1, h2⟩ := loadG_R (h.g (hD2 (by simp only [targetA, hx]))) hp
      refine fin (x := Instr.loadAt t (a.eval x)) ⟨V, h1, ?_⟩ (by unfold execOp; rw [hop]; rfl)
      rw [← e]
      exact h2
    · cases hp
  case lookup t x ix ok =>
    simp only [pureA] at hp
    split at hp
    · rename_i m k hm hk'
      refine fin (lookup_R h (fun i hi => hD1 i (by subst hi; simp only [targetA, hm])) hp (hF.evA hm) (hF.evA hk')) (by unfold execOp; rw [hop]; rfl)
    · cases hp
  case entry it =>
    simp only [pureA] at hp
    cases hi : evA T it with
    | none => rw [hi] at hp; cases hp
    | some u =>
      rw [hi] at hp
      have hall : RRel P ν s (fun _ => True) w := ⟨fun i o _ hio => h.f i o (hD2 (by simp only [targetA]) i) hio, fun _ => h.g (hD2 (by simp only [targetA]))⟩
      exact fin (entry_R hall hp (hF.evA hi)) (by unfold execOp; rw [hop]; rfl)
  case convert src dst x =>
    split at hk
    · rename_i e hsrc
      simp only [pureA] at hp
      split at hp
      · rename_i k n hx
        rw [hsrc] at hp
        cases hdst : P.underlying dst with
        | none => rw [hdst] at hp; cases hp
        | some d =>
          rw [hdst] at hp
          cases d <;> simp only at hp <;> (try (cases hp; done))
          injection hp with hp
          subst hp
          have hd := hF.evA hx
          simp only [den, Option.some.injEq] at hd
          refine fin (x := convert src dst (a.eval x)) ⟨_, rfl, ?_⟩ (by unfold execOp; rw [hop]; rfl)
          rw [← hd]
          unfold convert
          simp only [bind]
          rw [run_bind, run_underlying hsrc]
          simp only []
          rw [run_bind, run_underlying hdst]
          rfl
      · rename_i b hx
        rw [hsrc] at hp
        cases hdst : P.underlying dst with
        | none => rw [hdst] at hp; cases hp
        | some d =>
          rw [hdst] at hp
          cases d <;> simp only at hp <;> (try (cases hp; done))
          injection hp with hp
          subst hp
          have hd := hF.evA hx
          simp only [den, Option.some.injEq] at hd
          refine fin (x := convert src dst (a.eval x)) ⟨_, rfl, ?_⟩ (by unfold execOp; rw [hop]; rfl)
          rw [← hd]
          unfold convert
          simp only [bind]
          rw [run_bind, run_underlying hsrc]
          simp only []
          rw [run_bind, run_underlying hdst]
          rfl
      · rename_i k u hx
        obtain ⟨n, hn, hd⟩ := sym_den (hF.evA hx)
        rw [hsrc] at hp
        cases hdst : P.underlying dst with
        | none => rw [hdst] at hp; cases hp
        | some d =>
          rw [hdst] at hp
          cases d <;> simp only at hp <;> (try (cases hp; done))
          rename_i k'
          injection hp with hp
          subst hp
          refine fin (x := convert src dst (a.eval x)) ⟨.int k' (k'.wrap n), by simp only [den, denT, hn], ?_⟩ (by unfold execOp; rw [hop]; rfl)
          rw [hd]
          unfold convert
          simp only [bind]
          rw [run_bind, run_underlying hsrc]
          simp only []
          rw [run_bind, run_underlying hdst]
          rfl
      · rename_i u hni hns hnsy hx
        cases hdst : P.underlying dst with
        | none => rw [hsrc, hdst] at hp; cases hp
        | some d =>
          rw [hsrc, hdst] at hp
          cases d <;> simp only at hp <;> (try (cases hp; done))
          split at hp
          · rename_i cs he hcs
            split at hp
            · rename_i n hn
              split at hp
              · rw [Option.map_eq_some_iff] at hp
                obtain ⟨bs, hbs, rfl⟩ := hp
                have hX := hF.evA hx
                have hnstr : ∀ b, u ≠ .str b := fun b e => hns b (by rw [← e])
                refine fin (x := convert src dst (a.eval x)) ⟨.string ⟨bs.toArray⟩, rfl, ?_⟩ (by unfold execOp; rw [hop]; rfl)
                have hall : RRel P ν s (fun _ => True) w := ⟨fun i o _ hio => h.f i o (hD2 (by simp only [targetA]) i) hio, fun _ => h.g (hD2 (by simp only [targetA]))⟩
                have hc := cells_R (P := P) hall (fun _ _ _ _ _ => trivial) hX hcs hbs hnstr
                unfold convert
                simp only [bind]
                rw [run_bind, run_underlying hsrc]
                simp only []
                rw [run_bind, run_underlying hdst]
                simp only []
                have : ∃ A m c, a.eval x = .slice A m c := by
                  cases u <;> simp only [cellsOfSlice] at hcs <;> try (cases hcs; done)
                  · exact absurd rfl (hnstr _)
                  · simp only [den, Option.some.injEq] at hX
                    exact ⟨_, _, _, hX.symm⟩
                  · obtain ⟨g, C, _, _, _, e⟩ := slice_den hX
                    exact ⟨_, _, _, e⟩
                obtain ⟨A, m, c, e⟩ := this
                rw [e] at hc ⊢
                cases A <;> (simp only []; rw [run_bind, run_underlying he]; exact hc)
              · cases hp
            · cases hp
          · cases hp
      · cases hp
    · split at hk <;> cases hk
    · cases hk
    · cases hk
    · cases hk
  case call c =>
    split at hk
    · rename_i hc
      split at hk
      · cases hk
      · rename_i hwl
        simp only [pureA, hc] at hp
        split at hp
        · rename_i x t hx ht
          split at hp
          · rename_i d u hu hxe
            have hmap : ∃ kt e, d = .map kt e := by
              simp only [worldless, hc, ht, hu] at hwl
              cases d <;> first | exact ⟨_, _, rfl⟩ | (simp at hwl)
            obtain ⟨kt, e, rfl⟩ := hmap
            have hat : ∃ rest, c.argTypes = (t :: rest).toArray := by
              cases hL : c.argTypes.toList with
              | nil => rw [← Array.getElem?_toList, hL] at ht; cases ht
              | cons t' rest =>
                rw [← Array.getElem?_toList, hL] at ht
                injection ht with ht
                subst ht
                exact ⟨rest, arr_of hL⟩
            obtain ⟨rest, hat⟩ := hat
            obtain ⟨V, h1, h2⟩ := len_R (P := P) (ty := o.type) h (fun i hi => hD1 i (by subst hi; simp only [targetA, hx, hxe])) hu hp (hF.evA hxe) rest
            refine ⟨V, h1, ?_⟩
            rw [run_builtin hop hc, hat, arr_of hx]
            simp only [List.map_toArray, List.map_cons, List.map_nil]
            exact run_val h2
          · cases hp
        · cases hp
    · cases hk
    · cases hk
    · cases hk
    · cases hk
end

end Go.Proofs.YtlijlapkhimaoaaGreatDoor
