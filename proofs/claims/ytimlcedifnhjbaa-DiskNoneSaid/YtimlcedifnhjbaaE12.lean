/- The evaluator, 12: operations that read, that write, that make things. No program in sight. -/
import Derived.Test.YtimlcedifnhjbaaE11
import Derived.IntWalk
namespace Go.Proofs.Ytimlcedifnhjbaa
open Go Go.RowKit

def repV (l : List Value) : Nat → List Value
  | 0 => []
  | n + 1 => l ++ repV l n
theorem repV_get (l : List Value) : ∀ (n i : Nat), (repV l n)[i]? = if i < n * l.length then l[i % l.length]? else none
  | 0, i => by simp [repV]
  | n + 1, i => by
    simp only [repV]
    by_cases h : i < l.length
    · rw [List.getElem?_append_left h, Nat.mod_eq_of_lt h, if_pos (by rw [Nat.add_mul]; omega)]
    · rw [List.getElem?_append_right (by omega), repV_get l n]
      have e : (i - l.length) % l.length = i % l.length := by
        rw [Nat.mod_eq_sub_mod (a := i) (by omega)]
      rw [e]
      by_cases h2 : i < (n + 1) * l.length
      · rw [if_pos h2, if_pos (by rw [Nat.add_mul] at h2; omega)]
      · rw [if_neg h2, if_neg (by rw [Nat.add_mul] at h2; omega)]
theorem zeros_eq (z : Array Value) (n : Nat) : ((Array.range (n * z.size)).map fun i => z[i % z.size]!).toList = repV z.toList n := by
  apply List.ext_getElem?
  intro i
  rw [repV_get, Array.toList_map, List.getElem?_map, Array.toList_range]
  simp only [Array.length_toList]
  by_cases h : i < n * z.size
  · rw [if_pos h, List.getElem?_range h]
    have hz : 0 < z.size := by
      rcases Nat.eq_zero_or_pos z.size with h0 | h0
      · rw [h0] at h; simp at h
      · exact h0
    have hm := Nat.mod_lt i hz
    simp [hm]
  · rw [if_neg h, List.getElem?_eq_none (by simpa using h)]
    rfl

section
variable {P : Program} {w0 w : World} {A : Anch} {ν : Nm} {s : St} {T : Tr AV} {N : Nat} {a : Act}

theorem repL_den {l : List AV} {L : List Value} (h : denL ν l = some L) : ∀ n, denL ν (repL l n) = some (repV L n)
  | 0 => rfl
  | n + 1 => denL_append h (repL_den h n)
theorem zero_cells {z : AV} {Z : Value} (hZ : den ν z = some Z) (h1 : (cellsA z).all oneA = true) {n : Nat} (hn : (cellsA z).length = n) : denL ν (cellsA z) = some Z.cells.toList ∧ Z.cells.size = n := by
  have := cells_den hZ h1
  exact ⟨this, by have := denL_len this; simp at this; omega⟩
theorem wrap_small {n : Nat} (h : n ≤ most) : IntKind.i64.wrap (Int.ofNat n) = (n : Int) := by
  unfold most at h
  exact IntWalk.i64_in (n : Int) ⟨by omega, by omega⟩
theorem repV_nil : ∀ n, repV [] n = []
  | 0 => rfl
  | n + 1 => by simpa [repV] using repV_nil n

/-- what an operation leaves -/
def OpOkN (P : Program) (w0 : World) (A : Anch) (ν : Nm) (s' : St) (v : AV) (r : Result Next) : Prop := ∃ ν' V w', Nm.le ν ν' ∧ WRel P w0 A ν' s' w' ∧ den ν' v = some V ∧ (r = .ok (.value V) w' ∨ (r = .ok .skip w' ∧ V = undef))
theorem OpOk.n {s' : St} {v : AV} {x : Sem Value} (h : OpOk P w0 A ν s' v (x.run P w)) : OpOkN P w0 A ν s' v ((Sem.bind x fun v => Sem.pure (Next.value v)).run P w) := by
  obtain ⟨ν', V, w', h1, h2, h3, h4⟩ := h
  exact ⟨ν', V, w', h1, h2, h3, .inl (run_val h4)⟩
theorem OpOk.u {s' : St} {x : Sem Unit} (h : ∃ w', WRel P w0 A ν s' w' ∧ x.run P w = .ok () w') : OpOkN P w0 A ν s' undA ((Sem.bind x fun _ => Sem.pure Next.skip).run P w) := by
  obtain ⟨w', h1, h2⟩ := h
  exact ⟨ν, undef, w', Nm.le.refl _, h1, rfl, .inr ⟨run_unit h2, rfl⟩⟩
theorem run_zero_all {t : TypeId} {z : AV} (h : zeroA P t = some z) : ∃ Z, den ν z = some Z ∧ ∀ w, (zeroValue t).run P w = .ok Z w := by
  obtain ⟨i, Z, hi, hz, hd⟩ := zeroA_spec (ν := ν) h
  refine ⟨Z, hd, fun w => ?_⟩
  show (Sem.bind (typeInfo t) _).run P w = _
  rw [run_bind, run_info hi]
  simp only [hz]
  rfl
/-- what is made -/
def Makes (P : Program) (ν : Nm) (obj : AObj) (f : Nat → AV) (x : World → Result Next) : Prop := ∃ (OBJ : Obj) (Vf : Nat → Value), (∀ ν', Nm.le ν ν' → ORel P ν' obj OBJ) ∧ (∀ (ν' : Nm) k g, ν' k = some g → den ν' (f k) = some (Vf g)) ∧ ∀ w, x w = .ok (.value (Vf w.heap.size)) (w.alloc OBJ)
theorem makes_cells {l : List AV} {L : List Value} {t : TypeId} {f : Nat → AV} {Vf : Nat → Value} (hl : denL ν l = some L) (hv : ∀ (ν' : Nm) k g, ν' k = some g → den ν' (f k) = some (Vf g)) {x : Sem Value} (hx : ∀ w, x.run P w = .ok (Vf w.heap.size) (w.alloc (.cells L.toArray t))) :
    Makes P ν (.cells l t none) f fun w => (Sem.bind x fun v => Sem.pure (Next.value v)).run P w :=
  ⟨.cells L.toArray t, Vf, fun ν' hν => ⟨rfl, rfl, L, [], denL_mono hν _ _ hl, by simp, rfl⟩, hv, fun w => run_val (hx w)⟩
theorem mk_one {l : List AV} {t : TypeId} {f : Nat → AV} {r : AObj × (Nat → AV)} (h : (match l.all oneA with | true => some (AObj.cells l t none, f) | false => none) = some r) : l.all oneA = true ∧ r = (.cells l t none, f) := by
  split at h
  · rename_i h1
    injection h with h
    exact ⟨h1, h.symm⟩
  · cases h

theorem allocA_rel {o : Oper} (hF : FRel ν T N a.tmps) {obj : AObj} {f : Nat → AV} (hm : allocA P T o.op = some (obj, f)) : Makes P ν obj f fun w => (execOp a.eval o).run P w := by
  have as : ∀ {x : Sem Value}, (Makes P ν obj f fun w => (Sem.bind x fun v => Sem.pure (Next.value v)).run P w) → (execOp a.eval o = Sem.bind x fun v => Sem.pure (Next.value v)) → Makes P ν obj f fun w => (execOp a.eval o).run P w := fun hx e => by rw [e]; exact hx
  cases hop : o.op <;> rw [hop] at hm <;> simp only [allocA] at hm <;> (try (cases hm; done))
  case alloc t =>
    split at hm
    · rename_i z hz
      obtain ⟨Z, hZ, rz⟩ := run_zero_all (P := P) (ν := ν) hz
      obtain ⟨h1, e⟩ := mk_one hm
      simp only [Prod.mk.injEq] at e
      obtain ⟨rfl, rfl⟩ := e
      refine as (x := Instr.alloc t true (.tuple #[])) (makes_cells (cells_den hZ h1) (Vf := fun g => .pointer (some ⟨g, 0, none⟩)) (fun ν' k g hν => by simp only [den, hν]) fun w => ?_) (by unfold execOp; rw [hop]; rfl)
      unfold Instr.alloc
      simp only [bind]
      rw [run_bind, rz]
      simp only []
      rfl
    · cases hm
  case box t x =>
    split at hm
    · rename_i u hu
      obtain ⟨h1, e⟩ := mk_one hm
      simp only [Prod.mk.injEq] at e
      obtain ⟨rfl, rfl⟩ := e
      exact as (x := Instr.box t (a.eval x)) (makes_cells (cells_den (hF.evA hu) h1) (Vf := fun g => .pointer (some ⟨g, 0, none⟩)) (fun ν' k g hν => by simp only [den, hν]) fun w => rfl) (by unfold execOp; rw [hop]; rfl)
    · cases hm
  case buildSlice t len parts =>
    split at hm
    · rename_i e ps hu hps
      split at hm
      · rename_i z n hz hn
        split at hm
        · rename_i hc
          simp only [Bool.and_eq_true] at hc
          obtain ⟨⟨c1, c2⟩, c3⟩ := hc
          have c1 := Nat.le_of_ble_eq_true c1
          have c2 := Nat.eq_of_beq_eq_true c2
          split at hm
          · rename_i l hl
            obtain ⟨Z, hZ, rz⟩ := run_zero_all (P := P) (ν := ν) hz
            obtain ⟨z1, z2⟩ := zero_cells hZ c3 c2
            have hcells : ((Array.range (len * n)).map fun i => (if len * n = 0 then #[] else Z.cells)[i % (if len * n = 0 then (#[] : Array Value) else Z.cells).size]!).toList = repV Z.cells.toList len := by
              by_cases h0 : len * n = 0
              · rw [if_pos h0]
                have : repV Z.cells.toList len = [] := by
                  rcases Nat.mul_eq_zero.1 h0 with h1 | h1
                  · rw [h1]; rfl
                  · have : Z.cells.toList = [] := List.eq_nil_of_length_eq_zero (by simpa [h1] using z2)
                    rw [this]
                    exact repV_nil _
                rw [this, h0]
                simp
              · rw [if_neg h0]
                have := zeros_eq Z.cells len
                rw [z2] at this
                rw [z2]
                exact this
            have hp := parts_den hF hps
            obtain ⟨arr', f1, f2⟩ := run_fill (ν := ν) (pl := fun i => some (i * n, n)) (arr := (Array.range (len * n)).map fun i => (if len * n = 0 then #[] else Z.cells)[i % (if len * n = 0 then (#[] : Array Value) else Z.cells).size]!) hp (by rw [hcells]; exact repL_den z1 len) hl
            obtain ⟨_, eq⟩ := mk_one hm
            simp only [Prod.mk.injEq] at eq
            obtain ⟨rfl, rfl⟩ := eq
            refine as (x := Instr.buildSlice t len (parts.map fun (i, x) => (i, a.eval x))) (makes_cells f2 (Vf := fun g => .slice (some ⟨g, 0, none⟩) len len) (fun ν' k g hν => by simp only [den, hν, capOf]; rw [if_pos (Nat.le_refl _)]) fun w => ?_) (by unfold execOp; rw [hop]; rfl)
            unfold Instr.buildSlice
            simp only [bind]
            rw [run_bind, run_underlying hu]
            simp only []
            rw [run_bind, run_sizeT hn]
            simp only []
            have hbig : ¬ (len * n > 2 ^ 24) := by unfold most at c1; omega
            rw [if_neg hbig]
            have e1 : (parts.map fun p : Nat × Operand => (p.1, a.eval p.2)).toList = parts.toList.map fun p => (p.1, a.eval p.2) := by simp
            rw [← e1] at f1
            by_cases h0 : len * n = 0
            · rw [if_pos h0, run_bind]
              rw [if_pos h0] at f1
              show (match Instr.fill (fun i => some (i * n, n)) ((Array.range (len * n)).map fun i => (#[] : Array Value)[i % (#[] : Array Value).size]!) (parts.map fun p : Nat × Operand => (p.1, a.eval p.2)).toList with | some cells => _ | _ => _ : Sem Value).run P w = _
              rw [f1]
              rfl
            · rw [if_neg h0, run_bind, rz]
              rw [if_neg h0] at f1
              simp only []
              rw [run_bind]
              show (match Instr.fill (fun i => some (i * n, n)) ((Array.range (len * n)).map fun i => Z.cells[i % Z.cells.size]!) (parts.map fun p : Nat × Operand => (p.1, a.eval p.2)).toList with | some cells => _ | _ => _ : Sem Value).run P w = _
              rw [f1]
              rfl
          · cases hm
        · cases hm
      · cases hm
    · cases hm
  case makeMap t r =>
    have mk_ : ∀ {x : Sem Value}, obj = .map [] 0 → (f = fun i => .map i) → (∀ w, x.run P w = .ok (.map (some w.heap.size)) (w.alloc (.map #[] 0))) → Makes P ν obj f fun w => (Sem.bind x fun v => Sem.pure (Next.value v)).run P w := fun e1 e2 hx => by
      subst e1 e2
      exact ⟨.map #[] 0, fun g => .map (some g), fun ν' _ => ⟨rfl, trivial⟩, fun ν' k g hν => by simp only [den, hν], fun w => run_val (hx w)⟩
    split at hm
    · simp only [Option.some.injEq, Prod.mk.injEq] at hm
      exact as (x := Instr.makeMap t none) (mk_ hm.1.symm hm.2.symm fun w => rfl) (by unfold execOp; rw [hop]; rfl)
    · rename_i x
      split at hm
      · rename_i kt e k n hu hp
        simp only [Option.some.injEq, Prod.mk.injEq] at hm
        have hd := hF.evA hp
        simp only [den, Option.some.injEq] at hd
        refine as (x := Instr.makeMap t (some (a.eval x))) (mk_ hm.1.symm hm.2.symm fun w => ?_) (by unfold execOp; rw [hop]; rfl)
        unfold Instr.makeMap
        simp only [bind, ← hd]
        rw [run_bind, run_underlying hu]
        rfl
      · cases hm
  case makeSlice t l c =>
    split at hm
    · rename_i e nl nc hu hl hcp
      obtain ⟨u1, hu1, hn1⟩ := bind_natOf hl
      obtain ⟨k1, rfl⟩ := natOf_spec hn1
      obtain ⟨u2, hu2, hn2⟩ := bind_natOf hcp
      obtain ⟨k2, rfl⟩ := natOf_spec hn2
      have d1 := hF.evA hu1
      have d2 := hF.evA hu2
      simp only [den, Option.some.injEq] at d1 d2
      split at hm
      · rename_i z inf hz hi
        split at hm
        · rename_i hc
          simp only [Bool.and_eq_true] at hc
          obtain ⟨⟨⟨⟨c1, c2⟩, c3⟩, c4⟩, c5⟩ := hc
          have c1 := Nat.le_of_ble_eq_true c1
          have c2 := Nat.le_of_ble_eq_true c2
          have c3 := Nat.le_of_ble_eq_true c3
          have c4 := Nat.eq_of_beq_eq_true c4
          obtain ⟨Z, hZ, rz⟩ := run_zero_all (P := P) (ν := ν) hz
          obtain ⟨z1, z2⟩ := zero_cells hZ c5 c4
          have hsz : sizeT P e = some inf.size := by unfold sizeT; rw [hi]
          have w1 := wrap_small (Nat.le_trans c1 c2)
          have w2 := wrap_small c2
          have hcells : ∀ z0 : Array Value, z0 = (if nc * inf.size = 0 then #[] else Z.cells) → ((Array.range (nc * inf.size)).map fun i => z0[i % z0.size]!).toList = repV Z.cells.toList nc := fun z0 hz0 => by
            subst hz0
            by_cases h0 : nc * inf.size = 0
            · rw [if_pos h0]
              have : repV Z.cells.toList nc = [] := by
                rcases Nat.mul_eq_zero.1 h0 with h1 | h1
                · rw [h1]; rfl
                · have : Z.cells.toList = [] := List.eq_nil_of_length_eq_zero (by simpa [h1] using z2)
                  rw [this]
                  exact repV_nil _
              rw [this, h0]
              simp
            · rw [if_neg h0]
              have := zeros_eq Z.cells nc
              rw [z2] at this
              rw [z2]
              exact this
          obtain ⟨_, eq⟩ := mk_one hm
          simp only [Prod.mk.injEq] at eq
          obtain ⟨rfl, rfl⟩ := eq
          refine as (x := Instr.makeSlice t (a.eval l) (a.eval c)) (makes_cells (repL_den z1 nc) (Vf := fun g => .slice (some ⟨g, 0, none⟩) nl nc) (fun ν' k g hν => by simp only [den, hν, capOf]; rw [if_pos c1]) fun w => ?_) (by unfold execOp; rw [hop]; rfl)
          rw [← d1, ← d2]
          unfold Instr.makeSlice
          simp only [bind, asInt, asIntOf, pure, Sem.bind]
          rw [run_bind, run_underlying hu]
          simp only [Sem.bind]
          rw [run_bind, run_info hi]
          simp only [w1, w2]
          have hbytes : nc * inf.bytes ≤ most * most := Nat.mul_le_mul c2 c3
          have hbytes1 : inf.bytes * nl ≤ most * most := by rw [Nat.mul_comm]; exact Nat.mul_le_mul (Nat.le_trans c1 c2) c3
          unfold most at hbytes hbytes1
          have hcond : (decide ((nc : Int) < 0) || decide ((inf.bytes : Int) * (nc : Int) > 2 ^ 48) || decide ((nl : Int) < 0) || decide ((nl : Int) > (nc : Int))) = false := by
            have hb2 : (inf.bytes : Int) * (nc : Int) ≤ 1000000000000 := by
              have h1 : nc * inf.bytes ≤ 1000000000000 := hbytes
              have h2 := Int.ofNat_le.2 h1
              rw [Int.natCast_mul, Int.mul_comm] at h2
              exact h2
            have p48 : (2 : Int) ^ 48 = 281474976710656 := by rfl
            rw [decide_eq_false (by omega : ¬ (nc : Int) < 0), decide_eq_false (by rw [p48]; omega : ¬ (inf.bytes : Int) * (nc : Int) > 2 ^ 48), decide_eq_false (by omega : ¬ (nl : Int) < 0), decide_eq_false (by omega : ¬ (nl : Int) > (nc : Int))]
            rfl
          rw [hcond]
          simp only [Bool.false_eq_true, if_false, Int.toNat_natCast]
          have hroom : (askRoom (nc * inf.bytes)).run P w = .ok () w := by
            unfold askRoom
            split <;> rfl
          rw [run_bind, hroom]
          simp only []
          rw [run_bind, run_sizeT hsz]
          simp only []
          by_cases h0 : nc * inf.size = 0
          · rw [if_pos h0]
            have hc0 := hcells #[] (by rw [if_pos h0])
            show Result.ok (Value.slice (some ⟨w.heap.size, 0, none⟩) nl nc) (w.alloc (.cells _ e)) = _
            rw [← hc0]
          · rw [if_neg h0, run_bind, rz]
            simp only []
            have hc0 := hcells Z.cells (by rw [if_neg h0])
            show Result.ok (Value.slice (some ⟨w.heap.size, 0, none⟩) nl nc) (w.alloc (.cells _ e)) = _
            rw [← hc0]
        · cases hm
      · cases hm
    · cases hm

theorem memA_rel {o : Oper} (h : WRel P w0 A ν s w) (hF : FRel ν T N a.tmps) {v : AV} {s' : St} (hm : memA P s T o.op = some (v, s')) : OpOkN P w0 A ν s' v ((execOp a.eval o).run P w) := by
  have as : ∀ {x : Sem Value}, OpOk P w0 A ν s' v (x.run P w) → (execOp a.eval o = Sem.bind x fun v => Sem.pure (Next.value v)) → OpOkN P w0 A ν s' v ((execOp a.eval o).run P w) := fun hx e => by rw [e]; exact hx.n
  cases hop : o.op <;> rw [hop] at hm <;> simp only [memA] at hm <;> (try (cases hm; done))
  case store t x y =>
    split at hm
    · rename_i i off u hp hu
      rw [Option.map_eq_some_iff] at hm
      obtain ⟨s2, hs, he⟩ := hm
      simp only [Prod.mk.injEq] at he
      obtain ⟨rfl, rfl⟩ := he
      obtain ⟨g, hg, e⟩ := ptr_den (hF.evA hp)
      obtain ⟨w', r1, r2⟩ := storeA_rel (P := P) h hs hg (hF.evA hu)
      have : execOp a.eval o = Sem.bind (Instr.storeAt t (a.eval x) (a.eval y)) fun _ => Sem.pure Next.skip := by unfold execOp; rw [hop]; rfl
      rw [this]
      refine OpOk.u ⟨w', r1, ?_⟩
      rw [e]
      exact r2
    · cases hm
  case insert t m k v' =>
    split at hm
    · rename_i p q r hp hq hr
      rw [Option.map_eq_some_iff] at hm
      obtain ⟨s2, hs, he⟩ := hm
      simp only [Prod.mk.injEq] at he
      obtain ⟨rfl, rfl⟩ := he
      have : execOp a.eval o = Sem.bind (Instr.mapUpdate t (a.eval m) (a.eval k) (a.eval v')) fun _ => Sem.pure Next.skip := by unfold execOp; rw [hop]; rfl
      rw [this]
      exact OpOk.u (updateA_rel h hs (hF.evA hp) (hF.evA hq) (hF.evA hr))
    · cases hm
  case mapUpdate t m k v' =>
    split at hm
    · rename_i p q r hp hq hr
      rw [Option.map_eq_some_iff] at hm
      obtain ⟨s2, hs, he⟩ := hm
      simp only [Prod.mk.injEq] at he
      obtain ⟨rfl, rfl⟩ := he
      have : execOp a.eval o = Sem.bind (Instr.mapUpdate t (a.eval m) (a.eval k) (a.eval v')) fun _ => Sem.pure Next.skip := by unfold execOp; rw [hop]; rfl
      rw [this]
      exact OpOk.u (updateA_rel h hs (hF.evA hp) (hF.evA hq) (hF.evA hr))
    · cases hm
  case mapEntry t m k =>
    split at hm
    · rename_i p q hp hq
      exact as (entryA_rel h hm (hF.evA hp) (hF.evA hq)) (by unfold execOp; rw [hop]; rfl)
    · cases hm
  case entryStore t m b v' =>
    split at hm
    · rename_i p q r hp hq hr
      rw [Option.map_eq_some_iff] at hm
      obtain ⟨s2, hs, he⟩ := hm
      simp only [Prod.mk.injEq] at he
      obtain ⟨rfl, rfl⟩ := he
      have : execOp a.eval o = Sem.bind (Instr.entryStore t (a.eval m) (a.eval b) (a.eval v')) fun _ => Sem.pure Next.skip := by unfold execOp; rw [hop]; rfl
      rw [this]
      exact OpOk.u (entryStoreA_rel h hs (hF.evA hp) (hF.evA hq) (hF.evA hr))
    · cases hm
  case range t x =>
    split at hm
    · rename_i u hu
      exact as (rangeA_rel h hm (hF.evA hu)) (by unfold execOp; rw [hop]; rfl)
    · cases hm
  case call c =>
    split at hm
    · rename_i hc
      split at hm
      · rename_i x y t tx hx ht
        split at hm
        · rename_i p q hp hq
          have := appendA_rel (P := P) (ty := o.type) h hm (hF.evA hp) (hF.evA hq)
          rw [run_builtin hop hc, arr_of hx, arr_of ht]
          simp only [List.map_toArray, List.map_cons, List.map_nil]
          exact this.n
        · cases hm
      · cases hm
    · rename_i hc
      split at hm
      · rename_i x y t tx hx ht
        split at hm
        · rename_i p q hp hq
          have := copyA_rel (P := P) (tx := tx) (ty := o.type) h hm (hF.evA hp) (hF.evA hq)
          rw [run_builtin hop hc, arr_of hx, arr_of ht]
          simp only [List.map_toArray, List.map_cons, List.map_nil]
          exact this.n
        · cases hm
      · cases hm
    · rename_i hc
      split at hm
      · rename_i x y t tx hx ht
        split at hm
        · rename_i p q hp hq
          rw [Option.map_eq_some_iff] at hm
          obtain ⟨s2, hs, he⟩ := hm
          simp only [Prod.mk.injEq] at he
          obtain ⟨rfl, rfl⟩ := he
          have := deleteA_rel (P := P) (tx := tx) (ty := o.type) h hs (hF.evA hp) (hF.evA hq)
          rw [run_builtin hop hc, arr_of hx, arr_of ht]
          simp only [List.map_toArray, List.map_cons, List.map_nil]
          exact this.n
        · cases hm
      · cases hm
    · cases hm
end

end Go.Proofs.Ytimlcedifnhjbaa
