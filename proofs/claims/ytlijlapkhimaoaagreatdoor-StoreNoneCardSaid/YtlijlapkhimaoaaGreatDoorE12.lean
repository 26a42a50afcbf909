/- The evaluator, 12: operations that read, that write, that make things. No program in sight. -/
import Derived.Test.YtlijlapkhimaoaaGreatDoorE11
import Derived.Lib.ConvBytes
import Derived.IntWalk
namespace Go.Proofs.YtlijlapkhimaoaaGreatDoor
open Go Go.RowKit

def repV (l : List Value) : Nat → List Value
  | 0 => []
  | n + 1 => l ++ repV l n
theorem repV_get (l : List Value) : ∀ (n i : Nat), (repV l n)[i]? = if i < n * l.length then l[i % l.length]? else none
  | 0, i => by simp [repV]
  | n + 1, i => by
    simp only [repV]
    by_cases h : i < l.length
    · rw [List.getElem?_append_left h, Nat.mod_eq_of_lt h, if_pos (by rw [Nat.add_mul]; omega)]
    · rw [List.getElem?_append_right (by omega), repV_get l n]
      have e : (i - l.length) % l.length = i % l.length := by
        rw [Nat.mod_eq_sub_mod (a := i) (by omega)]
      rw [e]
      by_cases h2 : i < (n + 1) * l.length
      · rw [if_pos h2, if_pos (by rw [Nat.add_mul] at h2; omega)]
      · rw [if_neg h2, if_neg (by rw [Nat.add_mul] at h2; omega)]
theorem zeros_eq (z : Array Value) (n : Nat) : ((Array.range (n * z.size)).map fun i => z[i % z.size]!).toList = repV z.toList n := by
  apply List.ext_getElem?
  intro i
  rw [repV_get, Array.toList_map, List.getElem?_map, Array.toList_range]
  simp only [Array.length_toList]
  by_cases h : i < n * z.size
  · rw [if_pos h, List.getElem?_range h]
    have hz : 0 < z.size := by
      rcases Nat.eq_zero_or_pos z.size with h0 | h0
      · rw [h0] at h; simp at h
      · exact h0
    have hm := Nat.mod_lt i hz
    simp [hm]
  · rw [if_neg h, List.getElem?_eq_none (by simpa using h)]
    rfl

section
variable {P : Program} {w0 w : World} {A : Anch} {ν : Nm} {s : St} {T : Tr AV} {N : Nat} {a : Act}

theorem repL_den {l : List AV} {L : List Value} (h : denL ν l = some L) : ∀ n, denL ν (repL l n) = some (repV L n)
  | 0 => rfl
  | n + 1 => denL_append h (repL_den h n)
theorem zero_cells {z : AV} {Z : Value} (hZ : den ν z = some Z) (h1 : (cellsA z).all oneA = true) {n : Nat} (hn : (cellsA z).length = n) : denL ν (cellsA z) = some Z.cells.toList ∧ Z.cells.size = n := by
  have := cells_den hZ h1
  exact ⟨this, by have := denL_len this; simp at this; omega⟩
theorem wrap_small {n : Nat} (h : n ≤ most) : IntKind.i64.wrap (Int.ofNat n) = (n : Int) := by
  unfold most at h
  exact IntWalk.i64_in (n : Int) ⟨by omega, by omega⟩
theorem repV_nil : ∀ n, repV [] n = []
  | 0 => rfl
  | n + 1 => by simpa [repV] using repV_nil n

/-- what an operation leaves -/
def OpOkN (P : Program) (w0 : World) (A : Anch) (ν : Nm) (s' : St) (v : AV) (r : Result Next) : Prop := ∃ ν' V w', Nm.le ν ν' ∧ WRel P w0 A ν' s' w' ∧ den ν' v = some V ∧ (r = .ok (.value V) w' ∨ (r = .ok .skip w' ∧ V = undef))
theorem OpOk.n {s' : St} {v : AV} {x : Sem Value} (h : OpOk P w0 A ν s' v (x.run P w)) : OpOkN P w0 A ν s' v ((Sem.bind x fun v => Sem.pure (Next.value v)).run P w) := by
  obtain ⟨ν', V, w', h1, h2, h3, h4⟩ := h
  exact ⟨ν', V, w', h1, h2, h3, .inl (run_val h4)⟩
theorem OpOk.u {s' : St} {x : Sem Unit} (h : ∃ w', WRel P w0 A ν s' w' ∧ x.run P w = .ok () w') : OpOkN P w0 A ν s' undA ((Sem.bind x fun _ => Sem.pure Next.skip).run P w) := by
  obtain ⟨w', h1, h2⟩ := h
  exact ⟨ν, undef, w', Nm.le.refl _, h1, rfl, .inr ⟨run_unit h2, rfl⟩⟩
theorem run_zero_all {t : TypeId} {z : AV} (h : zeroA P t = some z) : ∃ Z, den ν z = some Z ∧ ∀ w, (zeroValue t).run P w = .ok Z w := by
  obtain ⟨i, Z, hi, hz, hd⟩ := zeroA_spec (ν := ν) h
  refine ⟨Z, hd, fun w => ?_⟩
  show (Sem.bind (typeInfo t) _).run P w = _
  rw [run_bind, run_info hi]
  simp only [hz]
  rfl
/-- what is made -/
def Makes (P : Program) (ν : Nm) (obj : AObj) (f : Nat → AV) (x : World → Result Next) : Prop := ∃ (OBJ : Obj) (Vf : Nat → Value), (∀ ν', Nm.le ν ν' → ORel P ν' obj OBJ) ∧ (∀ (ν' : Nm) k g, ν' k = some g → den ν' (f k) = some (Vf g)) ∧ ∀ w, x w = .ok (.value (Vf w.heap.size)) (w.alloc OBJ)
theorem makes_cells {l : List AV} {L : List Value} {t : TypeId} {f : Nat → AV} {Vf : Nat → Value} (hl : denL ν l = some L) (hv : ∀ (ν' : Nm) k g, ν' k = some g → den ν' (f k) = some (Vf g)) {x : Sem Value} (hx : ∀ w, x.run P w = .ok (Vf w.heap.size) (w.alloc (.cells L.toArray t))) :
    Makes P ν (.cells l t none) f fun w => (Sem.bind x fun v => Sem.pure (Next.value v)).run P w :=
  ⟨.cells L.toArray t, Vf, fun ν' hν => ⟨rfl, noFz0 _, L, [], denL_mono hν _ _ hl, by simp, rfl⟩, hv, fun w => run_val (hx w)⟩
theorem mk_one {l : List AV} {t : TypeId} {f : Nat → AV} {r : AObj × (Nat → AV)} (h : (match l.all oneA with | true => some (AObj.cells l t none, f) | false => none) = some r) : l.all oneA = true ∧ r = (.cells l t none, f) := by
  split at h
  · rename_i h1
    injection h with h
    exact ⟨h1, h.symm⟩
  · cases h

theorem allocA_rel {o : Oper} (hF : FRel ν T N a.tmps) {obj : AObj} {f : Nat → AV} (hm : allocA P T o.op = some (obj, f)) : Makes P ν obj f fun w => (execOp a.eval o).run P w := by
  have as : ∀ {x : Sem Value}, (Makes P ν obj f fun w => (Sem.bind x fun v => Sem.pure (Next.value v)).run P w) → (execOp a.eval o = Sem.bind x fun v => Sem.pure (Next.value v)) → Makes P ν obj f fun w => (execOp a.eval o).run P w := fun hx e => by rw [e]; exact hx
  cases hop : o.op <;> rw [hop] at hm <;> simp only [allocA] at hm <;> (try (cases hm; done))
  case alloc t =>
    split at hm
    · rename_i z hz
      obtain ⟨Z, hZ, rz⟩ := run_zero_all (P := P) (ν := ν) hz
      obtain ⟨h1, e⟩ := mk_one hm
      simp only [Prod.mk.injEq] at e
      obtain ⟨rfl, rfl⟩ := e
      refine as (x := Instr.alloc t true (.tuple #[])) (makes_cells (cells_den hZ h1) (Vf := fun g => .pointer (some ⟨g, 0, none⟩)) (fun ν' k g hν => by simp only [den, hν]) fun w => ?_) (by unfold execOp; rw [hop]; rfl)
      unfold Instr.alloc
      simp only [bind]
      rw [run_bind, rz]
      simp only []
      rfl
    · cases hm
  case box t x =>
    split at hm
    · rename_i u hu
      obtain ⟨h1, e⟩ := mk_one hm
      simp only [Prod.mk.injEq] at e
      obtain ⟨rfl, rfl⟩ := e
      exact as (x := Instr.box t (a.eval x)) (makes_cells (cells_den (hF.evA hu) h1) (Vf := fun g => .pointer (some ⟨g, 0, none⟩)) (fun ν' k g hν => by simp only [den, hν]) fun w => rfl) (by unfold execOp; rw [hop]; rfl)
    · cases hm
  case buildSlice t len parts =>
    split at hm
    · rename_i e ps hu hps
      split at hm
      · rename_i z n hz hn
        split at hm
        · rename_i hc
          simp only [Bool.and_eq_true] at hc
          obtain ⟨⟨c1, c2⟩, c3⟩ := hc
          have c1 := Nat.le_of_ble_eq_true c1
          have c2 := Nat.eq_of_beq_eq_true c2
          split at hm
          · rename_i l hl
            obtain ⟨Z, hZ, rz⟩ := run_zero_all (P := P) (ν := ν) hz
            obtain ⟨z1, z2⟩ := zero_cells hZ c3 c2
            have hcells : ((Array.range (len * n)).map fun i => (if len * n = 0 then #[] else Z.cells)[i % (if len * n = 0 then (#[] : Array Value) else Z.cells).size]!).toList = repV Z.cells.toList len := by
              by_cases h0 : len * n = 0
              · rw [if_pos h0]
                have : repV Z.cells.toList len = [] := by
                  rcases Nat.mul_eq_zero.1 h0 with h1 | h1
                  · rw [h1]; rfl
                  · have : Z.cells.toList = [] := List.eq_nil_of_length_eq_zero (by simpa [h1] using z2)
                    rw [this]
                    exact repV_nil _
                rw [this, h0]
                simp
              · rw [if_neg h0]
                have := zeros_eq Z.cells len
                rw [z2] at this
                rw [z2]
                exact this
            have hp := parts_den hF hps
            obtain ⟨arr', f1, f2⟩ := run_fill (ν := ν) (pl := fun i => some (i * n, n)) (arr := (Array.range (len * n)).map fun i => (if len * n = 0 then #[] else Z.cells)[i % (if len * n = 0 then (#[] : Array Value) else Z.cells).size]!) hp (by rw [hcells]; exact repL_den z1 len) hl
            obtain ⟨_, eq⟩ := mk_one hm
            simp only [Prod.mk.injEq] at eq
            obtain ⟨rfl, rfl⟩ := eq
            refine as (x := Instr.buildSlice t len (parts.map fun (i, x) => (i, a.eval x))) (makes_cells f2 (Vf := fun g => .slice (some ⟨g, 0, none⟩) len len) (fun ν' k g hν => by simp only [den, hν, capOf]; rw [if_pos (Nat.le_refl _)]) fun w => ?_) (by unfold execOp; rw [hop]; rfl)
            unfold Instr.buildSlice
            simp only [bind]
            rw [run_bind, run_underlying hu]
            simp only []
            rw [run_bind, run_sizeT hn]
            simp only []
            have hbig : ¬ (len * n > 2 ^ 24) := by unfold most at c1; omega
            rw [if_neg hbig]
            have e1 : (parts.map fun p : Nat × Operand => (p.1, a.eval p.2)).toList = parts.toList.map fun p => (p.1, a.eval p.2) := by simp
            rw [← e1] at f1
            by_cases h0 : len * n = 0
            · rw [if_pos h0, run_bind]
              rw [if_pos h0] at f1
              show (match Instr.fill (fun i => some (i * n, n)) ((Array.range (len * n)).map fun i => (#[] : Array Value)[i % (#[] : Array Value).size]!) (parts.map fun p : Nat × Operand => (p.1, a.eval p.2)).toList with | some cells => _ | _ => _ : Sem Value).run P w = _
              rw [f1]
              rfl
            · rw [if_neg h0, run_bind, rz]
              rw [if_neg h0] at f1
              simp only []
              rw [run_bind]
              show (match Instr.fill (fun i => some (i * n, n)) ((Array.range (len * n)).map fun i => Z.cells[i % Z.cells.size]!) (parts.map fun p : Nat × Operand => (p.1, a.eval p.2)).toList with | some cells => _ | _ => _ : Sem Value).run P w = _
              rw [f1]
              rfl
          · cases hm
        · cases hm
      · cases hm
    · cases hm
  case makeMap t r =>
    have mk_ : ∀ {x : Sem Value}, obj = .map [] 0 → (f = fun i => .map i) → (∀ w, x.run P w = .ok (.map (some w.heap.size)) (w.alloc (.map #[] 0))) → Makes P ν obj f fun w => (Sem.bind x fun v => Sem.pure (Next.value v)).run P w := fun e1 e2 hx => by
      subst e1 e2
      exact ⟨.map #[] 0, fun g => .map (some g), fun ν' _ => ⟨rfl, trivial⟩, fun ν' k g hν => by simp only [den, hν], fun w => run_val (hx w)⟩
    split at hm
    · simp only [Option.some.injEq, Prod.mk.injEq] at hm
      exact as (x := Instr.makeMap t none) (mk_ hm.1.symm hm.2.symm fun w => rfl) (by unfold execOp; rw [hop]; rfl)
    · rename_i x
      split at hm
      · rename_i kt e k n hu hp
        simp only [Option.some.injEq, Prod.mk.injEq] at hm
        have hd := hF.evA hp
        simp only [den, Option.some.injEq] at hd
        refine as (x := Instr.makeMap t (some (a.eval x))) (mk_ hm.1.symm hm.2.symm fun w => ?_) (by unfold execOp; rw [hop]; rfl)
        unfold Instr.makeMap
        simp only [bind, ← hd]
        rw [run_bind, run_underlying hu]
        rfl
      · cases hm
  case makeSlice t l c =>
    split at hm
    · rename_i e nl nc hu hl hcp
      obtain ⟨u1, hu1, hn1⟩ := bind_natOf hl
      obtain ⟨k1, rfl⟩ := natOf_spec hn1
      obtain ⟨u2, hu2, hn2⟩ := bind_natOf hcp
      obtain ⟨k2, rfl⟩ := natOf_spec hn2
      have d1 := hF.evA hu1
      have d2 := hF.evA hu2
      simp only [den, Option.some.injEq] at d1 d2
      split at hm
      · rename_i z inf hz hi
        split at hm
        · rename_i hc
          simp only [Bool.and_eq_true] at hc
          obtain ⟨⟨⟨⟨c1, c2⟩, c3⟩, c4⟩, c5⟩ := hc
          have c1 := Nat.le_of_ble_eq_true c1
          have c2 := Nat.le_of_ble_eq_true c2
          have c3 := Nat.le_of_ble_eq_true c3
          have c4 := Nat.eq_of_beq_eq_true c4
          obtain ⟨Z, hZ, rz⟩ := run_zero_all (P := P) (ν := ν) hz
          obtain ⟨z1, z2⟩ := zero_cells hZ c5 c4
          have hsz : sizeT P e = some inf.size := by unfold sizeT; rw [hi]
          have w1 := wrap_small (Nat.le_trans c1 c2)
          have w2 := wrap_small c2
          have hcells : ∀ z0 : Array Value, z0 = (if nc * inf.size = 0 then #[] else Z.cells) → ((Array.range (nc * inf.size)).map fun i => z0[i % z0.size]!).toList = repV Z.cells.toList nc := fun z0 hz0 => by
            subst hz0
            by_cases h0 : nc * inf.size = 0
            · rw [if_pos h0]
              have : repV Z.cells.toList nc = [] := by
                rcases Nat.mul_eq_zero.1 h0 with h1 | h1
                · rw [h1]; rfl
                · have : Z.cells.toList = [] := List.eq_nil_of_length_eq_zero (by simpa [h1] using z2)
                  rw [this]
                  exact repV_nil _
              rw [this, h0]
              simp
            · rw [if_neg h0]
              have := zeros_eq Z.cells nc
              rw [z2] at this
              rw [z2]
              exact this
          obtain ⟨_, eq⟩ := mk_one hm
          simp only [Prod.mk.injEq] at eq
          obtain ⟨rfl, rfl⟩ := eq
          refine as (x := Instr.makeSlice t (a.eval l) (a.eval c)) (makes_cells (repL_den z1 nc) (Vf := fun g => .slice (some ⟨g, 0, none⟩) nl nc) (fun ν' k g hν => by simp only [den, hν, capOf]; rw [if_pos c1]) fun w => ?_) (by unfold execOp; rw [hop]; rfl)
          rw [← d1, ← d2]
          unfold Instr.makeSlice
          simp only [bind, asInt, asIntOf, pure, Sem.bind]
          rw [run_bind, run_underlying hu]
          simp only [Sem.bind]
          rw [run_bind, run_info hi]
          simp only [w1, w2]
          have hbytes : nc * inf.bytes ≤ most * most := Nat.mul_le_mul c2 c3
          have hbytes1 : inf.bytes * nl ≤ most * most := by rw [Nat.mul_comm]; exact Nat.mul_le_mul (Nat.le_trans c1 c2) c3
          unfold most at hbytes hbytes1
          have hcond : (decide ((nc : Int) < 0) || decide ((inf.bytes : Int) * (nc : Int) > 2 ^ 48) || decide ((nl : Int) < 0) || decide ((nl : Int) > (nc : Int))) = false := by
            have hb2 : (inf.bytes : Int) * (nc : Int) ≤ 1000000000000 := by
              have h1 : nc * inf.bytes ≤ 1000000000000 := hbytes
              have h2 := Int.ofNat_le.2 h1
              rw [Int.natCast_mul, Int.mul_comm] at h2
              exact h2
            have p48 : (2 : Int) ^ 48 = 281474976710656 := by rfl
            rw [decide_eq_false (by omega : ¬ (nc : Int) < 0), decide_eq_false (by rw [p48]; omega : ¬ (inf.bytes : Int) * (nc : Int) > 2 ^ 48), decide_eq_false (by omega : ¬ (nl : Int) < 0), decide_eq_false (by omega : ¬ (nl : Int) > (nc : Int))]
            rfl
          rw [hcond]
          simp only [Bool.false_eq_true, if_false, Int.toNat_natCast]
          have hroom : (askRoom (nc * inf.bytes)).run P w = .ok () w := by
            unfold askRoom
            split <;> rfl
          rw [run_bind, hroom]
          simp only []
          rw [run_bind, run_sizeT hsz]
          simp only []
          by_cases h0 : nc * inf.size = 0
          · rw [if_pos h0]
            have hc0 := hcells #[] (by rw [if_pos h0])
            show Result.ok (Value.slice (some ⟨w.heap.size, 0, none⟩) nl nc) (w.alloc (.cells _ e)) = _
            rw [← hc0]
          · rw [if_neg h0, run_bind, rz]
            simp only []
            have hc0 := hcells Z.cells (by rw [if_neg h0])
            show Result.ok (Value.slice (some ⟨w.heap.size, 0, none⟩) nl nc) (w.alloc (.cells _ e)) = _
            rw [← hc0]
        · cases hm
      · cases hm
    · cases hm

theorem clearS_rel (h : WRel P w0 A ν s w) {t ty : TypeId} {x : AV} {X : Value} {s' : St} (hc : clearS P s t x = some s') (hx : den ν x = some X) : OpOk P w0 A ν s' undA ((Builtin.clear_ #[t] ty #[X]).run P w) := by
  unfold clearS at hc
  split at hc
  · cases hc
  · rename_i d ht
    split at hc
    · injection hc with hc
      subst hc
      simp only [den, Option.some.injEq] at hx
      subst hx
      refine ⟨ν, .tuple #[], w, Nm.le.refl _, h, rfl, ?_⟩
      unfold Builtin.clear_
      simp only [List.getElem?_toArray, List.getElem?_cons_zero, bind]
      rw [run_bind, run_underlying ht]
      rfl
    · injection hc with hc
      subst hc
      simp only [den, Option.some.injEq] at hx
      subst hx
      refine ⟨ν, .tuple #[], w, Nm.le.refl _, h, rfl, ?_⟩
      unfold Builtin.clear_
      simp only [List.getElem?_toArray, List.getElem?_cons_zero, bind]
      rw [run_bind, run_underlying ht]
      rfl
    · rename_i i off len c
      obtain ⟨g, n, hg, hcap, hlen, rfl⟩ := slice_den hx
      split at hc
      · rename_i hl
        injection hc with hc
        subst hc
        have hl := Nat.eq_of_beq_eq_true hl
        subst hl
        refine ⟨ν, .tuple #[], w, Nm.le.refl _, h, rfl, ?_⟩
        unfold Builtin.clear_
        simp only [List.getElem?_toArray, List.getElem?_cons_zero, bind]
        rw [run_bind, run_underlying ht]
        rfl
      · rename_i hl
        split at hc
        · rename_i e
          split at hc
          · rename_i z hz
            split at hc
            · rename_i h1
              obtain ⟨Z, hZ, hrun⟩ := run_zero_all (ν := ν) hz
              obtain ⟨k1, _⟩ := zero_cells hZ h1 rfl
              obtain ⟨m1, m2, _⟩ := putCells_rel h hc hg (repL_den k1 len)
              refine ⟨ν, .tuple #[], _, Nm.le.refl _, m1, rfl, ?_⟩
              cases len with
              | zero => simp [Nat.beq_refl] at hl
              | succ len =>
                unfold Builtin.clear_
                simp only [List.getElem?_toArray, List.getElem?_cons_zero, bind]
                rw [run_bind, run_underlying ht]
                simp only []
                rw [run_bind, hrun w]
                simp only []
                rw [show (Builtin.zeroCells Z.cells (len + 1)).toList = repV Z.cells.toList (len + 1) from zeros_eq _ _, run_bind, m2]
                rfl
            · cases hc
          · cases hc
        · cases hc
    · rename_i i
      obtain ⟨g, hg, rfl⟩ := map_den hx
      split at hc
      · rename_i es c hi
        injection hc with hc
        subst hc
        obtain ⟨arr, ho, harr⟩ := h.map_ hi hg
        refine ⟨ν, .tuple #[], w.putObj g (.map #[] c), Nm.le.refl _, h.write hi hg (show ORel P ν (.map [] c) (.map #[] c) from ⟨rfl, trivial⟩) (Upd.obj _ (h.lt hi hg)) (fun _ hx => List.mem_cons_of_mem _ hx) (fun _ _ => List.mem_cons_self ..), rfl, ?_⟩
        unfold Builtin.clear_
        simp only [List.getElem?_toArray, List.getElem?_cons_zero, bind]
        rw [run_bind, run_underlying ht]
        simp only []
        rw [run_bind, run_getObj ho (by simp)]
        simp only []
        have hs : (setObj g (.map #[] c)).run P w = .ok () (w.putObj g (.map #[] c)) := by simp [setObj, Sem.run, ho, World.putObj]
        rw [run_bind, hs]
        rfl
      · cases hc
    · cases hc

theorem freeze_alloc (v : World) (c : Array Value) (e n : Nat) : (v.alloc (.cells c e)).freeze ⟨v.heap.size, n, none⟩ 1 = v.alloc (.cells c e (n, n + 1)) := by
  unfold World.freeze
  rw [if_neg (by decide)]
  unfold World.alloc
  congr 1
  refine Array.ext (by simp) fun i h1 h2 => ?_
  simp only [Array.size_modify, Array.size_push] at h1
  rw [Array.getElem_modify]
  by_cases hi : i = v.heap.size
  · subst hi
    simp
  · have hlt : i < v.heap.size := by omega
    rw [if_neg (fun e => hi e.symm), Array.getElem_push_lt hlt, Array.getElem_push_lt hlt]
theorem bytesWorld_eq (w : World) (e : TypeId) (b : ByteArray) : Lib.bytesWorld w e b = w.drew.alloc (.cells (Lib.bytesCells w e b) e ((Lib.bytesCells w e b).size, (Lib.bytesCells w e b).size + 1)) := freeze_alloc w.drew _ _ _
theorem bytesA_rel (h : WRel P w0 A ν s w) {src dst : TypeId} {x v : AV} {X : Value} {s' : St} (hb : bytesA P s src dst x = some (v, s')) (hx : den ν x = some X) : OpOk P w0 A ν s' v ((convert src dst X).run P w) := by
  unfold bytesA at hb
  split at hb
  · rename_i e b hs hd
    split at hb
    · rename_i inf he hi
      split at hb
      · rename_i h1
        have h1 := Nat.eq_of_beq_eq_true h1
        simp only [Option.some.injEq, Prod.mk.injEq] at hb
        obtain ⟨rfl, rfl⟩ := hb
        simp only [den, Option.some.injEq] at hx
        subst hx
        have hr := Lib.run_convert_string_bytes (P := P) w src dst e ⟨b.toArray⟩ hs hd he
        rw [bytesWorld_eq] at hr
        have hsz : (ByteArray.mk b.toArray).size = b.length := by simp [ByteArray.size]
        rw [hsz] at hr
        have hge := grownCap_ge w b.length 0 e
        have hk1 := h.top (s.n + 1) (by omega)
        have hd' := (h.drew).name (k := s.n + 1) (n' := s.n + 2) hk1 (by omega) (by omega) (grownCap w b.length 0 e)
        have hk0 : (ν.set (s.n + 1) (grownCap w b.length 0 e)) s.n = none := by
          simp only [Nm.set]
          rw [if_neg (by omega)]
          exact h.top _ (Nat.le_refl _)
        have hle1 := Nm.le_set hk1 (grownCap w b.length 0 e)
        have hle2 := Nm.le_set hk0 w.heap.size
        have hcap : (Nm.set (ν.set (s.n + 1) (grownCap w b.length 0 e)) s.n w.heap.size) (s.n + 1) = some (grownCap w b.length 0 e) := hle2 _ _ (Nm.set_same _ _ _)
        have hbs : ∀ b : List UInt8, denL ν (b.map fun c => AV.int .u8 c.toNat) = some (b.map fun c => Value.int .u8 c.toNat) := fun b => by
          induction b with
          | nil => rfl
          | cons c b ih => exact denL_mk rfl ih
        have hcells : Lib.bytesCells w e ⟨b.toArray⟩ = (b.map fun c => Value.int .u8 c.toNat).toArray ++ Array.replicate (grownCap w b.length 0 e - b.length) (.int .u8 0) := by
          simp [Lib.bytesCells, hsz]
        have hcs : (Lib.bytesCells w e ⟨b.toArray⟩).size = grownCap w b.length 0 e := by
          rw [hcells]
          simp
          omega
        have hw := hd'.alloc (k := s.n) (n' := s.n + 2) (o := .cells (b.map fun c => .int .u8 c.toNat) e (some (s.n + 1))) (obj := .cells (Lib.bytesCells w e ⟨b.toArray⟩) e ((Lib.bytesCells w e ⟨b.toArray⟩).size, (Lib.bytesCells w e ⟨b.toArray⟩).size + 1)) hk0 (by simp) (by omega)
          ⟨rfl, fun i hi hh => (by simp only at hh; omega), b.map fun c => Value.int .u8 c.toNat, List.replicate (grownCap w b.length 0 e - b.length) (.int .u8 0), denL_mono hle2 _ _ (denL_mono hle1 _ _ (hbs b)), by rw [hcells]; simp, grownCap w b.length 0 e, inf, hcap, hi, by rw [hcs, h1, Nat.mul_one]⟩
        refine ⟨_, .slice (some ⟨w.heap.size, 0, none⟩) b.length (grownCap w b.length 0 e), _, hle1.trans hle2, hw, ?_, hr⟩
        simp only [den, capOf, hcap, Nm.set_same]
        rw [if_pos (Nat.zero_le _)]
        simp only [Nat.sub_zero]
        rw [if_pos hge]
      · cases hb
    · cases hb
  · cases hb

/-! ### pointers seen as others; texts that share bytes -/
theorem run_shape {g t : Nat} {arr : Array Value} {fz : Nat × Nat} (hg : w.heap[g]? = some (.cells arr t fz)) : (shape g).run P w = .ok (some (t, arr.size)) w := by
  show Result.ok (w.shape? g) w = _
  unfold World.shape?
  rw [hg]
theorem run_viewAt {g t : Nat} {arr : Array Value} {fz : Nat × Nat} (hg : w.heap[g]? = some (.cells arr t fz)) : (viewAt g).run P w = .ok none w := by
  unfold viewAt
  simp only [bind]
  rw [run_bind, run_shape hg]
  rfl
theorem run_cellsIn {g t : Nat} {arr : Array Value} {fz : Nat × Nat} (hg : w.heap[g]? = some (.cells arr t fz)) : (cellsIn g).run P w = .ok (some arr.size) w := by
  unfold cellsIn
  simp only [bind]
  rw [run_bind, run_shape hg]
  rfl
theorem run_seenAt {g off t : Nat} {arr : Array Value} {fz : Nat × Nat} (hg : w.heap[g]? = some (.cells arr t fz)) : (Conv.seenAt ⟨g, off, none⟩).run P w = .ok ⟨g, off, none⟩ w := by
  unfold Conv.seenAt
  simp only [bind]
  rw [run_bind, run_viewAt hg]
  rfl
theorem run_variablesAt {g off u n t : Nat} {arr : Array Value} {fz : Nat × Nat} (hg : w.heap[g]? = some (.cells arr t fz)) : (variablesAt ⟨g, off, none⟩ u n).run P w = .ok (liesAt P P.depth t (arr.size / P.cellsOf t) off u n) w := by
  unfold variablesAt
  simp only [bind, program, Sem.bind, Sem.run]
  rw [run_bind, run_shape hg]
  rfl
theorem unsafeA_rel (h : WRel P w0 A ν s w) {src dst : TypeId} {x v : AV} {X : Value} (hu : unsafeA P s src dst x = some v) (hx : den ν x = some X) : ∃ V, den ν v = some V ∧ (convert src dst X).run P w = .ok V w := by
  have two : ∀ {d1 d2 : TypeDesc} {f : TypeDesc → TypeDesc → Sem Value} {r : Result Value}, P.underlying src = some d1 → P.underlying dst = some d2 → (f d1 d2).run P w = r → (Sem.bind (underlying src) fun a => Sem.bind (underlying dst) fun b => f a b).run P w = r := fun h1 h2 h3 => by
    rw [run_bind, run_underlying h1]
    simp only []
    rw [run_bind, run_underlying h2]
    exact h3
  unfold unsafeA at hu
  split at hu
  · rename_i e hs hd
    injection hu with hu
    subst hu
    simp only [den, Option.some.injEq] at hx
    subst hx
    refine ⟨_, rfl, two hs hd ?_⟩
    exact two hs hd rfl
  · rename_i t i off hs hd
    split at hu
    · rename_i sz l tc c hsz hi
      split at hu
      · rename_i hlt
        have hlt := Nat.le_of_ble_eq_true hlt
        injection hu with hu
        subst hu
        obtain ⟨g, hg, rfl⟩ := ptr_den hx
        obtain ⟨L, R, hL, ⟨fz, hb, _⟩, _⟩ := h.blk hi hg
        have hlen := denL_len hL
        obtain ⟨inf, hinf, hsz'⟩ := sizeT_spec hsz
        refine ⟨_, hx, two hs hd ?_⟩
        refine two hs hd ?_
        simp only [bind]
        rw [run_bind, run_seenAt hb]
        simp only []
        rw [run_bind, run_cellsIn hb]
        simp only []
        rw [run_bind, run_sizeOf hinf]
        simp only []
        rw [if_neg ?_]
        · rfl
        · have : ¬ (L ++ R).toArray.size ≤ off := by simp; omega
          simp only [Bool.or_eq_true, Bool.and_eq_true, decide_eq_true_eq, ge_iff_le]
          rintro (h1 | ⟨h1, _⟩)
          · omega
          · exact this h1
      · cases hu
    · cases hu
  · rename_i e hs hd
    injection hu with hu
    subst hu
    simp only [den, Option.some.injEq] at hx
    subst hx
    refine ⟨_, rfl, two hs hd ?_⟩
    exact two hs hd rfl
  · rename_i u i off hs hd
    split at hu
    · rename_i sz l e hsz hi
      split at hu
      · rename_i hl
        injection hu with hu
        subst hu
        obtain ⟨g, hg, rfl⟩ := ptr_den hx
        obtain ⟨L, R, hL, ⟨fz, hb, _⟩, hR⟩ := h.blk hi hg
        have hlen := denL_len hL
        simp only at hR
        subst hR
        obtain ⟨inf, hinf, hsz'⟩ := sizeT_spec hsz
        refine ⟨_, hx, two hs hd ?_⟩
        refine two hs hd ?_
        simp only [bind]
        rw [run_bind, run_seenAt hb]
        simp only []
        rw [run_bind, run_sizeOf hinf]
        simp only []
        rw [run_bind, run_variablesAt hb]
        simp only []
        have : liesAt P P.depth e ((L ++ []).toArray.size / P.cellsOf e) off u 1 = true := by rw [← hl]; simp [hlen]
        rw [this, if_pos (by simp)]
        rfl
      · cases hu
    · cases hu
  · cases hu
theorem capA_rel {t ty : TypeId} {x v : AV} {X : Value} (hc : capA P t x = some v) (hx : den ν x = some X) (rest : List TypeId) : ∃ V, den ν v = some V ∧ (Builtin.cap_ (t :: rest).toArray ty #[X]).run P w = .ok V w := by
  unfold capA at hc
  split at hc
  · rename_i e ht
    injection hc with hc
    subst hc
    simp only [den, Option.some.injEq] at hx
    subst hx
    refine ⟨_, rfl, ?_⟩
    unfold Builtin.cap_
    simp only [bind]
    show (Sem.bind (underlying t) _).run P w = _
    rw [run_bind, run_underlying ht]
    rfl
  · rename_i e i off n c ht
    injection hc with hc
    subst hc
    obtain ⟨g, C, hg, hC, hle, rfl⟩ := slice_den hx
    simp only [capOf, Option.some.injEq] at hC
    subst hC
    refine ⟨_, rfl, ?_⟩
    unfold Builtin.cap_
    simp only [bind]
    show (Sem.bind (underlying t) _).run P w = _
    rw [run_bind, run_underlying ht]
    rfl
  · cases hc
theorem sliceDataA_rel {ty : TypeId} {x v : AV} {X : Value} (hc : sliceDataA x = some v) (hx : den ν x = some X) (ts : Array TypeId) : ∃ V, den ν v = some V ∧ (Builtin.unsafeSliceData_ ts ty #[X]).run P w = .ok V w := by
  unfold sliceDataA at hc
  split at hc
  · injection hc with hc
    subst hc
    simp only [den, Option.some.injEq] at hx
    subst hx
    exact ⟨_, rfl, rfl⟩
  · rename_i i off n c
    injection hc with hc
    subst hc
    obtain ⟨g, C, hg, hC, hle, rfl⟩ := slice_den hx
    refine ⟨.pointer (some ⟨g, off, none⟩), by simp only [den, hg], ?_⟩
    show Sem.run P (ite (C ≠ 0) (Sem.pure (Value.pointer (some ⟨g, off, none⟩))) _) w = _
    rw [if_pos (by omega)]
    rfl
  · cases hc
theorem run_loadBytes {g : Nat} : ∀ (cs : List AV) (bs : List UInt8) (CS : List Value) (off : Nat) (acc : ByteArray), bytesOf cs = some bs → denL ν cs = some CS → (∀ j u, CS[j]? = some u → w.cell? ⟨g, off + j, none⟩ = some u) →
    (loadBytes ⟨g, off, none⟩ acc bs.length).run P w = .ok ⟨(acc.data.toList ++ bs).toArray⟩ w
  | [], bs, CS, off, acc, h, _, _ => by
    simp only [bytesOf, mapO, Option.some.injEq] at h
    subst h
    simp [loadBytes, pure, Sem.run]
  | c :: cs, bs, CS, off, acc, h, hd, hc => by
    unfold bytesOf at h
    simp only [mapO] at h
    split at h
    · cases h
    · rename_i y hy
      split at h
      · cases h
      · rename_i r hr
        injection h with h
        subst h
        obtain ⟨V, R, v1, v2, rfl⟩ := denL_cons hd
        split at hy
        · rename_i n
          injection hy with hy
          subst hy
          simp only [den, Option.some.injEq] at v1
          subst v1
          have h0 := hc 0 _ rfl
          simp only [Nat.add_zero] at h0
          show (loadBytes ⟨g, off, none⟩ acc (r.length + 1)).run P w = _
          unfold loadBytes
          simp only [bind]
          unfold load
          simp only [Sem.bind]
          rw [run_load_one h0, addr_add]
          have := run_loadBytes cs r R (off + 1) (acc.push (UInt8.ofNat n)) hr v2 fun j u hj => by
            rw [show off + 1 + j = off + (j + 1) by omega]
            exact hc (j + 1) u (by simpa using hj)
          show (loadBytes ⟨g, off + 1, none⟩ (acc.push (UInt8.ofNat n)) r.length).run P w = _
          rw [this]
          simp [ByteArray.push]
        · cases hy
theorem lies_row {e b count off n : Nat} (hd : 1 ≤ P.depth) (hs : P.cellsOf e = 1) (hf : sameLayout P P.depth e b = true) (hc : off + n ≤ count) : liesAt P P.depth e count off b n = true := by
  cases hdp : P.depth with
  | zero => omega
  | succ d =>
    unfold liesAt
    rw [Bool.or_eq_true]
    left
    unfold rowAt
    simp only [hdp, hs]
    rw [if_neg (by simp)]
    rw [hdp] at hf
    simp [hf, hc, Nat.mod_one]
theorem bytesOf_len {cs : List AV} {bs : List UInt8} (h : bytesOf cs = some bs) : bs.length = cs.length := by
  induction cs generalizing bs with
  | nil => simp only [bytesOf, mapO, Option.some.injEq] at h; subst h; rfl
  | cons c cs ih =>
    unfold bytesOf at h
    simp only [mapO] at h
    split at h
    · cases h
    · split at h
      · cases h
      · rename_i r hr
        injection h with h
        subst h
        simp [ih hr]
theorem unsafeStrA_rel (h : WRel P w0 A ν s w) {pt ty : TypeId} {x y v : AV} {X Y : Value} {s' : St} (hc : unsafeStrA P s pt x y = some (v, s')) (hx : den ν x = some X) (hy : den ν y = some Y) (rest : List TypeId) : OpOk P w0 A ν s' v ((Builtin.unsafeString_ (pt :: rest).toArray ty #[X, Y]).run P w) := by
  have zero : ∀ {p : Option Addr} {k : IntKind}, X = .pointer p → Y = .int k 0 → (Builtin.unsafeString_ (pt :: rest).toArray ty #[X, Y]).run P w = .ok (.string ⟨#[]⟩) w := fun {p k} e1 e2 => by
    subst e1 e2
    unfold Builtin.unsafeString_
    cases p <;> rfl
  have nat : ∀ {n : Nat}, natOf y = some n → ∃ k, Y = .int k (.ofNat n) := fun {n} hn => by
    obtain ⟨k, rfl⟩ := natOf_spec hn
    simp only [den, Option.some.injEq] at hy
    exact ⟨k, hy.symm⟩
  unfold unsafeStrA at hc
  split at hc
  · rename_i hn
    simp only [Option.some.injEq, Prod.mk.injEq] at hc
    obtain ⟨rfl, rfl⟩ := hc
    obtain ⟨k, hk⟩ := nat hn
    simp only [den, Option.some.injEq] at hx
    exact ⟨ν, _, w, Nm.le.refl _, h, rfl, zero hx.symm hk⟩
  · rename_i i off hn
    simp only [Option.some.injEq, Prod.mk.injEq] at hc
    obtain ⟨rfl, rfl⟩ := hc
    obtain ⟨k, hk⟩ := nat hn
    obtain ⟨g, hg, e⟩ := ptr_den hx
    exact ⟨ν, _, w, Nm.le.refl _, h, rfl, zero e hk⟩
  · rename_i i off n hn
    split at hc
    · rename_i b l e c hpt hi
      split at hc
      · rename_i inf cs hinf hsl hcut
        split at hc
        · rename_i bs hcond hbs
          simp only [Bool.and_eq_true] at hcond
          obtain ⟨⟨c1, c2⟩, c3⟩ := hcond
          have c1 := Nat.eq_of_beq_eq_true c1
          have c2 := Nat.le_of_ble_eq_true c2
          have c3 := Nat.le_of_ble_eq_true c3
          simp only [Option.some.injEq, Prod.mk.injEq] at hc
          obtain ⟨rfl, rfl⟩ := hc
          obtain ⟨k, rfl⟩ := nat hn
          obtain ⟨g, hg, rfl⟩ := ptr_den hx
          obtain ⟨L, R, hL, ⟨fz, hb, hnf⟩, _⟩ := h.blk hi hg
          obtain ⟨hd, hlen⟩ := denL_cut hL hcut
          have hbl := bytesOf_len hbs
          obtain ⟨_, hcl⟩ := cutL_spec hcut
          have hn0 : n + 1 ≠ 0 := by omega
          have hfit : off + (n + 1) ≤ L.length := by simp at hlen; omega
          have hs1 : P.cellsOf e = 1 := by simp [Program.cellsOf, hinf, c1]
          have hcells : ∀ j u, ((L.drop off).take (n + 1))[j]? = some u → w.cell? ⟨g, off + j, none⟩ = some u := fun j u hj => by
            have hcell := cell_of_row w g (off + j) (L ++ R).toArray e fz hb
            rw [hcell]
            rw [List.getElem?_take] at hj
            split at hj
            · rw [List.getElem?_drop] at hj
              simp only [List.getElem?_toArray]
              rw [List.getElem?_append_left (List.getElem?_eq_some_iff.1 hj).1]
              exact hj
            · cases hj
          have hld := run_loadBytes (P := P) (w := w) (g := g) cs bs _ off ByteArray.empty hbs hd hcells
          rw [hbl, hcl] at hld
          have hel : (elemOf pt).run P w = .ok b w := by
            unfold elemOf
            simp only [bind]
            rw [run_bind, run_underlying hpt]
            rfl
          have hlies : liesAt P P.depth e ((L ++ R).toArray.size / P.cellsOf e) off b (n + 1) = true := by
            refine lies_row c2 hs1 hsl ?_
            rw [hs1, Nat.div_one]
            simp
            omega
          have hrun : (Builtin.unsafeString_ (pt :: rest).toArray ty #[.pointer (some ⟨g, off, none⟩), .int k (.ofNat (n + 1))]).run P w = .ok (.string ⟨bs.toArray⟩) (w.freeze ⟨g, off, none⟩ (n + 1)) := by
            have h0 : ¬ ((Int.ofNat (n + 1)) < 0) := by simp; omega
            have h1 : ¬ ((Int.ofNat (n + 1)) > IntKind.i64.max) := by
              have : IntKind.i64.max = 9223372036854775807 := by decide
              unfold most at c3
              rw [this]
              simp
              omega
            have h2 : ¬ ((Int.ofNat (n + 1)) = 0) := by simp; omega
            show Sem.run P (ite ((Int.ofNat (n + 1)) > IntKind.i64.max) _ _) w = _
            rw [if_neg h1]
            show (Sem.bind (elemOf pt) _).run P w = _
            rw [run_bind, hel]
            show (Sem.bind (variablesAt ⟨g, off, none⟩ b (n + 1)) _).run P w = _
            rw [run_bind, run_variablesAt hb, hlies]
            show Sem.run P (ite (true = true) _ _) w = _
            rw [if_pos rfl]
            show (Sem.bind (loadBytes ⟨g, off, none⟩ .empty (n + 1)) _).run P w = _
            rw [run_bind, hld]
            rfl
          obtain ⟨g', obj', q1, q2, q3, q4⟩ := h.objs i _ hi
          rw [hg] at q1
          injection q1 with q1
          subst q1
          have hupd : ∃ fz', Upd w g (.cells (L ++ R).toArray e fz') (w.freeze ⟨g, off, none⟩ (n + 1)) := by
            unfold World.freeze
            rw [if_neg hn0]
            obtain ⟨lo, up⟩ := fz
            refine ⟨if lo == up then (off, off + (n + 1)) else (min lo off, max up (off + (n + 1))), rfl, rfl, rfl, by simp, ?_, fun k hk => ?_⟩
            · simp only [Array.getElem?_modify, if_true, hb, Option.map_some]
            · simp only [Array.getElem?_modify]
              rw [if_neg (Ne.symm hk)]
          obtain ⟨fz', hupd⟩ := hupd
          have hno : ∀ j o, (killO s i).h.get j = some o → ν j ≠ some g := fun j o hj e => by
            simp only [killO] at hj
            rw [Tr.get_put] at hj
            split at hj
            · cases hj
            · rename_i hne
              exact hne (h.inj j i o _ hj hi (by rw [e, hg]))
          exact ⟨ν, _, _, Nm.le.refl _, (h.kill i).raw hno q2 (h.own i _ hi g hg) hupd, rfl, hrun⟩
        · cases hc
      · cases hc
    · cases hc
  · cases hc

theorem memA_rel {o : Oper} (h : WRel P w0 A ν s w) (hF : FRel ν T N a.tmps) {v : AV} {s' : St} (hm : memA P s T o.op = some (v, s')) : OpOkN P w0 A ν s' v ((execOp a.eval o).run P w) := by
  have as : ∀ {x : Sem Value}, OpOk P w0 A ν s' v (x.run P w) → (execOp a.eval o = Sem.bind x fun v => Sem.pure (Next.value v)) → OpOkN P w0 A ν s' v ((execOp a.eval o).run P w) := fun hx e => by rw [e]; exact hx.n
  cases hop : o.op <;> rw [hop] at hm <;> simp only [memA] at hm <;> (try (cases hm; done))
  case store t x y =>
    split at hm
    · rename_i i off u hp hu
      rw [Option.map_eq_some_iff] at hm
      obtain ⟨s2, hs, he⟩ := hm
      simp only [Prod.mk.injEq] at he
      obtain ⟨rfl, rfl⟩ := he
      obtain ⟨g, hg, e⟩ := ptr_den (hF.evA hp)
      obtain ⟨w', r1, r2⟩ := storeA_rel (P := P) h hs hg (hF.evA hu)
      have : execOp a.eval o = Sem.bind (Instr.storeAt t (a.eval x) (a.eval y)) fun _ => Sem.pure Next.skip := by unfold execOp; rw [hop]; rfl
      rw [this]
      refine OpOk.u ⟨w', r1, ?_⟩
      rw [e]
      exact r2
    · cases hm
  case convert src dst x =>
    split at hm
    · rename_i u hu
      split at hm
      · rename_i r hr
        injection hm with hm
        subst hm
        exact as (bytesA_rel h hr (hF.evA hu)) (by unfold execOp; rw [hop]; rfl)
      · rw [Option.map_eq_some_iff] at hm
        obtain ⟨v', hv', he⟩ := hm
        simp only [Prod.mk.injEq] at he
        obtain ⟨rfl, rfl⟩ := he
        obtain ⟨V, h1, h2⟩ := unsafeA_rel h hv' (hF.evA hu)
        exact as (x := convert src dst (a.eval x)) ⟨ν, V, w, Nm.le.refl _, h, h1, h2⟩ (by unfold execOp; rw [hop]; rfl)
    · cases hm
  case insert t m k v' =>
    split at hm
    · rename_i p q r hp hq hr
      rw [Option.map_eq_some_iff] at hm
      obtain ⟨s2, hs, he⟩ := hm
      simp only [Prod.mk.injEq] at he
      obtain ⟨rfl, rfl⟩ := he
      have : execOp a.eval o = Sem.bind (Instr.mapUpdate t (a.eval m) (a.eval k) (a.eval v')) fun _ => Sem.pure Next.skip := by unfold execOp; rw [hop]; rfl
      rw [this]
      exact OpOk.u (updateA_rel h hs (hF.evA hp) (hF.evA hq) (hF.evA hr))
    · cases hm
  case mapUpdate t m k v' =>
    split at hm
    · rename_i p q r hp hq hr
      rw [Option.map_eq_some_iff] at hm
      obtain ⟨s2, hs, he⟩ := hm
      simp only [Prod.mk.injEq] at he
      obtain ⟨rfl, rfl⟩ := he
      have : execOp a.eval o = Sem.bind (Instr.mapUpdate t (a.eval m) (a.eval k) (a.eval v')) fun _ => Sem.pure Next.skip := by unfold execOp; rw [hop]; rfl
      rw [this]
      exact OpOk.u (updateA_rel h hs (hF.evA hp) (hF.evA hq) (hF.evA hr))
    · cases hm
  case mapEntry t m k =>
    split at hm
    · rename_i p q hp hq
      exact as (entryA_rel h hm (hF.evA hp) (hF.evA hq)) (by unfold execOp; rw [hop]; rfl)
    · cases hm
  case entryStore t m b v' =>
    split at hm
    · rename_i p q r hp hq hr
      rw [Option.map_eq_some_iff] at hm
      obtain ⟨s2, hs, he⟩ := hm
      simp only [Prod.mk.injEq] at he
      obtain ⟨rfl, rfl⟩ := he
      have : execOp a.eval o = Sem.bind (Instr.entryStore t (a.eval m) (a.eval b) (a.eval v')) fun _ => Sem.pure Next.skip := by unfold execOp; rw [hop]; rfl
      rw [this]
      exact OpOk.u (entryStoreA_rel h hs (hF.evA hp) (hF.evA hq) (hF.evA hr))
    · cases hm
  case range t x =>
    split at hm
    · rename_i u hu
      exact as (rangeA_rel h hm (hF.evA hu)) (by unfold execOp; rw [hop]; rfl)
    · cases hm
  case call c =>
    split at hm
    · rename_i hc
      split at hm
      · rename_i x y t tx hx ht
        split at hm
        · rename_i p q hp hq
          have := appendA_rel (P := P) (ty := o.type) h hm (hF.evA hp) (hF.evA hq)
          rw [run_builtin hop hc, arr_of hx, arr_of ht]
          simp only [List.map_toArray, List.map_cons, List.map_nil]
          exact this.n
        · cases hm
      · cases hm
    · rename_i hc
      split at hm
      · rename_i x y t tx hx ht
        split at hm
        · rename_i p q hp hq
          have := copyA_rel (P := P) (tx := tx) (ty := o.type) h hm (hF.evA hp) (hF.evA hq)
          rw [run_builtin hop hc, arr_of hx, arr_of ht]
          simp only [List.map_toArray, List.map_cons, List.map_nil]
          exact this.n
        · cases hm
      · cases hm
    · rename_i hc
      split at hm
      · rename_i x y t tx hx ht
        split at hm
        · rename_i p q hp hq
          rw [Option.map_eq_some_iff] at hm
          obtain ⟨s2, hs, he⟩ := hm
          simp only [Prod.mk.injEq] at he
          obtain ⟨rfl, rfl⟩ := he
          have := deleteA_rel (P := P) (tx := tx) (ty := o.type) h hs (hF.evA hp) (hF.evA hq)
          rw [run_builtin hop hc, arr_of hx, arr_of ht]
          simp only [List.map_toArray, List.map_cons, List.map_nil]
          exact this.n
        · cases hm
      · cases hm
    · rename_i hc
      split at hm
      · rename_i x t hx ht
        split at hm
        · rename_i p hp
          rw [Option.map_eq_some_iff] at hm
          obtain ⟨s2, hs, he⟩ := hm
          simp only [Prod.mk.injEq] at he
          obtain ⟨rfl, rfl⟩ := he
          have := clearS_rel (P := P) (ty := o.type) h hs (hF.evA hp)
          rw [run_builtin hop hc, arr_of hx, arr_of ht]
          simp only [List.map_toArray, List.map_cons, List.map_nil]
          exact this.n
        · cases hm
      · cases hm
    · rename_i hc
      split at hm
      · rename_i x t hx ht
        split at hm
        · rename_i p hp
          rw [Option.map_eq_some_iff] at hm
          obtain ⟨v', hs, he⟩ := hm
          simp only [Prod.mk.injEq] at he
          obtain ⟨rfl, rfl⟩ := he
          obtain ⟨V, h1, h2⟩ := capA_rel (P := P) (w := w) (ty := o.type) hs (hF.evA hp) []
          rw [run_builtin hop hc, arr_of hx, arr_of ht]
          simp only [List.map_toArray, List.map_cons, List.map_nil]
          exact OpOk.n (x := Builtin.cap_ [t].toArray o.type #[a.eval x]) ⟨ν, V, w, Nm.le.refl _, h, h1, h2⟩
        · cases hm
      · cases hm
    · rename_i hc
      split at hm
      · rename_i x hx
        split at hm
        · rename_i p hp
          rw [Option.map_eq_some_iff] at hm
          obtain ⟨v', hs, he⟩ := hm
          simp only [Prod.mk.injEq] at he
          obtain ⟨rfl, rfl⟩ := he
          obtain ⟨V, h1, h2⟩ := sliceDataA_rel (P := P) (w := w) (ty := o.type) hs (hF.evA hp) c.argTypes
          rw [run_builtin hop hc, arr_of hx]
          simp only [List.map_toArray, List.map_cons, List.map_nil]
          exact OpOk.n (x := Builtin.unsafeSliceData_ c.argTypes o.type #[a.eval x]) ⟨ν, V, w, Nm.le.refl _, h, h1, h2⟩
        · cases hm
      · cases hm
    · rename_i hc
      split at hm
      · rename_i x y t tx hx ht
        split at hm
        · rename_i p q hp hq
          have := unsafeStrA_rel (P := P) (ty := o.type) h hm (hF.evA hp) (hF.evA hq) [tx]
          rw [run_builtin hop hc, arr_of hx, arr_of ht]
          simp only [List.map_toArray, List.map_cons, List.map_nil]
          exact OpOk.n (x := Builtin.unsafeString_ [t, tx].toArray o.type #[a.eval x, a.eval y]) this
        · cases hm
      · cases hm
    · cases hm
end

end Go.Proofs.YtlijlapkhimaoaaGreatDoor
