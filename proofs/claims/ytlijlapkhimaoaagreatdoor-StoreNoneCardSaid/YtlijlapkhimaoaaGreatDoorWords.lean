/- Words for memory: a slice that reads as a list; what a value stands for ('Rp'). No program in sight. -/
import Derived.Below
import Derived.Laws.OwnMore
import Derived.Deep.AppendLies
import Derived.Deep.Draws
import Derived.Laws.Rows
import Derived.Maps.AppendAt
import Derived.RegionTactic
import Derived.OwnWalk
namespace Go.Proofs.YtlijlapkhimaoaaGreatDoor
open Go.RowKit

theorem block_of_add (a : Addr) (n : Nat) : (a.add n).block = a.block := by unfold Addr.add; split <;> rfl
theorem add_of_add (a : Addr) (i j : Nat) : (a.add i).add j = a.add (i + j) := by
  unfold Addr.add
  by_cases hi : i = 0 <;> by_cases hj : j = 0 <;> simp [hi, hj, Nat.add_assoc]

/-- The slice (A, n elements of 'size' cells each) holds the cells xs, and they lie in a block of D. -/
def Reads (w : World) (D : Nat → Prop) (size : Nat) (A : Option Addr) (n : Nat) (xs : List Value) : Prop :=
  xs.length = n * size ∧ (0 < n → ∃ ad, A = some ad ∧ D ad.block ∧ ∀ j u, xs[j]? = some u → w.cell? (ad.add j) = some u)

/-- w' has all the cells of w that lie in D, as they were -/
def Holds (D : Nat → Prop) (w w' : World) : Prop := ∀ (p : Addr) (u : Value), D p.block → w.cell? p = some u → w'.cell? p = some u

section
variable {w w' : World} {D D' : Nat → Prop} {size n : Nat} {A : Option Addr} {xs : List Value}
theorem Reads.none_ : Reads w D size A 0 [] := ⟨by simp, fun h => absurd h (by omega)⟩
theorem Reads.at_ {k : Nat} (h : Reads w D 1 A n xs) (hk : k < n) : ∃ ad u, A = some ad ∧ D ad.block ∧ xs[k]? = some u ∧ w.cell? (ad.add k) = some u := by
  obtain ⟨ad, e, hb, hc⟩ := h.2 (by omega)
  have hl : k < xs.length := by have := h.1; omega
  exact ⟨ad, xs[k], e, hb, List.getElem?_eq_getElem hl, hc k _ (List.getElem?_eq_getElem hl)⟩
theorem Reads.keep (h : Reads w D size A n xs) (hk : Holds D w w') (hD : ∀ b, D b → b < w.heap.size → D' b) (hs : 0 < size) : Reads w' D' size A n xs :=
  ⟨h.1, fun hn => by
    obtain ⟨ad, e, hb, hc⟩ := h.2 hn
    have hl : 0 < xs.length := by rw [h.1]; exact Nat.mul_pos hn hs
    have h0 := hc 0 _ (List.getElem?_eq_getElem hl)
    have hlt := World.block_lt_of_cell? w _ h0
    rw [block_of_add] at hlt
    exact ⟨ad, e, hD _ hb hlt, fun j u hu => hk _ _ (by rw [block_of_add]; exact hb) (hc j u hu)⟩⟩
theorem Reads.cut (h : Reads w D size A n xs) {k cap : Nat} (hk : k ≤ n) (hc : n ≤ cap) :
    Reads w D size (if cap = k then A else A.map (·.add (k * size))) (n - k) (xs.drop (k * size)) := by
  refine ⟨by rw [List.length_drop, h.1, Nat.sub_mul], fun hn => ?_⟩
  obtain ⟨ad, rfl, hb, hcell⟩ := h.2 (by omega)
  rw [if_neg (by omega)]
  refine ⟨ad.add (k * size), rfl, by rw [block_of_add]; exact hb, fun j u hu => ?_⟩
  rw [add_of_add]
  exact hcell _ u (by rw [← hu, List.getElem?_drop])
theorem Reads.take (h : Reads w D size A n xs) {k : Nat} (hk : k ≤ n) : Reads w D size A k (xs.take (k * size)) := by
  refine ⟨by rw [List.length_take, h.1]; exact Nat.min_eq_left (Nat.mul_le_mul_right _ hk), fun hn => ?_⟩
  obtain ⟨ad, rfl, hb, hcell⟩ := h.2 (by omega)
  refine ⟨ad, rfl, hb, fun j u hu => hcell j u ?_⟩
  rw [List.getElem?_take] at hu
  split at hu
  · exact hu
  · cases hu
theorem Reads.of_own {base : Nat} {e : TypeId} {c : Nat} (h : w.ownsRow base e size (.slice A n c) n xs) : Reads w (fun b => base ≤ b ∧ b < w.heap.size) size A n xs := by
  refine ⟨h.1, fun hn => ?_⟩
  obtain ⟨g, cap, hv, hg, hlt⟩ := h.form hn
  have hA : A = some ⟨g, 0, none⟩ := by injection hv
  subst hA
  exact ⟨_, rfl, ⟨hg, hlt⟩, h.cells (g := g) rfl⟩
end

theorem Reads.box (w : World) (cs : Array Value) (t : TypeId) {size n : Nat} (h : cs.size = n * size) : Reads (w.alloc (.cells cs t)) (fun b => b = w.heap.size) size (some ⟨w.heap.size, 0, none⟩) n cs.toList := by
  refine ⟨by simpa using h, fun _ => ⟨_, rfl, rfl, fun j u hu => ?_⟩⟩
  have e : (⟨w.heap.size, 0, none⟩ : Addr).add j = ⟨w.heap.size, j, none⟩ := by
    unfold Addr.add
    split
    · subst_vars; rfl
    · simp
  rw [e, cell_of_row (w.alloc (.cells cs t)) w.heap.size j cs t (0, 0) (heap_alloc_new w _)]
  simpa using hu

theorem Holds.below {D : Nat → Prop} {w w' : World} (h : Below w.heap.size w w') : Holds D w w' := fun p u _ hc => by
  rw [h.cell (World.block_lt_of_cell? w _ hc)]
  exact hc
theorem Holds.refl {D : Nat → Prop} {w : World} : Holds D w w := fun _ _ _ h => h
theorem Holds.drew {D : Nat → Prop} {w : World} : Holds D w w.drew := fun _ _ _ h => h
theorem Holds.alloc {D : Nat → Prop} {w : World} (o : Obj) : Holds D w (w.alloc o) := fun p u _ hc => by
  rw [World.cell?_alloc_lt w o p (World.block_lt_of_cell? w _ hc)]
  exact hc
theorem Holds.setCell {D : Nat → Prop} {w : World} {p : Addr} (hp : ¬ D p.block) (u : Value) : Holds D w (w.setCell p u) := fun q v hq hc => by
  rw [World.cell?_setCell_other w p q u (fun e => by subst e; exact hp hq)]
  exact hc
theorem Holds.trans {D D' : Nat → Prop} {a b c : World} (h : Holds D a b) (k : Holds D' b c) (hD : ∀ x, D x → D' x) : Holds D a c := fun p u hp hc => k p u (hD _ hp) (h p u hp hc)

section
variable {P : Program} (w : World)

theorem run_append_of_nil (base : Nat) (t ty e : TypeId) (i : TypeInfo) (size : Nat) (ht : P.underlying t = some (.slice e)) (hi : P.info? e = some i)
    (v : Value) (n : Nat) (xs : List Value) (hown : w.ownsRow base e size v n xs) (c : Nat) : (Builtin.append_ #[t, t] ty #[v, .slice none 0 c]).run P w = .ok v w := by
  rcases hown.2 with ⟨rfl, rfl⟩ | ⟨g, cap, cur, rfl, _, _, hnc, _⟩
  · simp [Builtin.append_, run_underlying ht, sizeOf, typeInfo, hi, Builtin.lenOf, Builtin.firstCells]
  · simp [Builtin.append_, run_underlying ht, sizeOf, typeInfo, hi, Builtin.lenOf, Builtin.firstCells, hnc, storeCells]

theorem run_append_any (base : Nat) (t ty e : TypeId) (i : TypeInfo) (z : Value) (size bytes : Nat) (ht : P.underlying t = some (.slice e)) (hi : P.info? e = some i) (hz : i.zero = some z)
    (hsize : i.size = size) (hby : i.bytes = bytes) (hzs : z.cells.size = size) (hsz : 0 < size)
    (v : Value) (n : Nat) (xs : List Value) (hown : w.ownsRow base e size v n xs)
    (D : Nat → Prop) (A : Option Addr) (m c : Nat) (news : List Value) (hr : Reads w D size A m news) (h1 : ∀ u ∈ news, u.oneCell' = true)
    (h63 : n + m ≤ maxLen) (hbytes : (n + m) * bytes ≤ 140737488355328) (hbase : base ≤ w.heap.size) :
    ∃ v' w', (Builtin.append_ #[t, t] ty #[v, .slice A m c]).run P w = .ok v' w' ∧ w'.ownsRow base e size v' (n + m) (xs ++ news) ∧ w.grownBy w' v.ownBlock ∧
      (v'.ownBlock = v.ownBlock ∨ v'.ownBlock = some w.heap.size) := by
  rcases A with _ | ad
  · have hm : m = 0 := by
      rcases Nat.eq_zero_or_pos m with h0 | h0
      · exact h0
      · obtain ⟨ad, h, _⟩ := hr.2 h0
        cases h
    subst hm
    have hn : news = [] := List.eq_nil_of_length_eq_zero (by simpa using hr.1)
    subst hn
    exact ⟨v, w, run_append_of_nil w base t ty e i size ht hi v n xs hown c, by simpa using hown, World.grownBy.refl w _, .inl rfl⟩
  · have hcells : ∀ j u, news[j]? = some u → w.cell? (ad.add j) = some u := by
      intro j u hu
      rcases Nat.eq_zero_or_pos m with h0 | h0
      · subst h0
        have hn : news = [] := List.eq_nil_of_length_eq_zero (by simpa using hr.1)
        subst hn
        simp at hu
      · obtain ⟨ad', h, _, hc⟩ := hr.2 h0
        injection h with h
        subst h
        exact hc j u hu
    obtain ⟨v', w', hrun, h2, h3, _, h5⟩ := run_append_own_at (P := P) w base t ty e i z size bytes ht hi hz hsize hby hzs hsz v n xs hown ad m c news hr.1 hcells h1 h63 hbytes hbase
    exact ⟨v', w', hrun, h2, h3, h5⟩

theorem wp_append_any {o : Oper} {a : Act} {K : Act → World → Prop} {Q : Exit → Act → World → Prop} (s x : Operand) (t : TypeId)
    (ho : o.op = .call { callee := .builtin .append, args := #[s, x], argTypes := #[t, t] })
    (base : Nat) (e : TypeId) (i : TypeInfo) (z : Value) (size bytes : Nat) (ht : P.underlying t = some (.slice e)) (hi : P.info? e = some i) (hz : i.zero = some z)
    (hsize : i.size = size) (hby : i.bytes = bytes) (hzs : z.cells.size = size) (hsz : 0 < size)
    (v : Value) (n : Nat) (xs : List Value) (hs : a.eval s = v) (hown : w.ownsRow base e size v n xs)
    (D : Nat → Prop) (A : Option Addr) (m c : Nat) (news : List Value) (hx : a.eval x = .slice A m c) (hr : Reads w D size A m news) (h1 : ∀ u ∈ news, u.oneCell' = true)
    (h63 : n + m ≤ maxLen) (hbytes : (n + m) * bytes ≤ 140737488355328) (hbase : base ≤ w.heap.size)
    (h : ∀ v' w', w'.ownsRow base e size v' (n + m) (xs ++ news) → w.grownBy w' v.ownBlock → (v'.ownBlock = v.ownBlock ∨ v'.ownBlock = some w.heap.size) → K (a.put o.dst v') w') : o.wp P a w K Q := by
  obtain ⟨v', w', hrun, h2, h3, h4⟩ := run_append_any (P := P) w base t o.type e i z size bytes ht hi hz hsize hby hzs hsz v n xs hown D A m c news hr h1 h63 hbytes hbase
  unfold Oper.wp execOp
  simp only [ho, resolve, invoke, builtin, Sem.run_bind, Sem.run_pure, Result.andThen_ok, List.map_toArray, List.map_cons, List.map_nil, hs, hx, hrun]
  exact h v' w' h2 h3 h4

theorem wpList_append_any {ops : Array Oper} {rest : List Oper} {o : Oper} {a : Act} {Q : Exit → Act → World → Prop} (hgd : o.guard = none) (s x : Operand) (t : TypeId)
    (ho : o.op = .call { callee := .builtin .append, args := #[s, x], argTypes := #[t, t] })
    (base : Nat) (e : TypeId) (i : TypeInfo) (z : Value) (size bytes : Nat) (ht : P.underlying t = some (.slice e)) (hi : P.info? e = some i) (hz : i.zero = some z)
    (hsize : i.size = size) (hby : i.bytes = bytes) (hzs : z.cells.size = size) (hsz : 0 < size)
    (v : Value) (n : Nat) (xs : List Value) (hs : a.eval s = v) (hown : w.ownsRow base e size v n xs)
    (D : Nat → Prop) (A : Option Addr) (m c : Nat) (news : List Value) (hx : a.eval x = .slice A m c) (hr : Reads w D size A m news) (h1 : ∀ u ∈ news, u.oneCell' = true)
    (h63 : n + m ≤ maxLen) (hbytes : (n + m) * bytes ≤ 140737488355328) (hbase : base ≤ w.heap.size)
    (h : ∀ v' w', w'.ownsRow base e size v' (n + m) (xs ++ news) → w.grownBy w' v.ownBlock → (v'.ownBlock = v.ownBlock ∨ v'.ownBlock = some w.heap.size) → wpList P ops Q rest (a.put o.dst v') w') : wpList P ops Q (o :: rest) a w :=
  wpList_plain hgd fun _ hK => wp_append_any w s x t ho base e i z size bytes ht hi hz hsize hby hzs hsz v n xs hs hown D A m c news hx hr h1 h63 hbytes hbase fun v' w' h2 h3 h4 => hK _ _ (h v' w' h2 h3 h4)
end

theorem below_append {B : Nat} {a w w1 : World} {e : TypeId} {size n : Nat} {v : Value} {xs : List Value} {o : Obj} (hb : Below B a w) (hown : w.ownsRow B e size v n xs) (hg : (w.alloc o).grownBy w1 v.ownBlock) (hB : B ≤ w.heap.size) : Below B a w1 :=
  (hb.alloc hB o).grown hg (by simp; omega) (fun k hk => (hown.lt k hk).1)
theorem below_append0 {B : Nat} {a w w1 : World} {e : TypeId} {size n : Nat} {v : Value} {xs : List Value} (hb : Below B a w) (hown : w.ownsRow B e size v n xs) (hg : w.grownBy w1 v.ownBlock) (hB : B ≤ w.heap.size) : Below B a w1 :=
  hb.grown hg hB (fun k hk => (hown.lt k hk).1)

theorem hide {p : Prop} (h : p) : Hid p := h
theorem unhide {p : Prop} (h : Hid p) : p := h

theorem bcell {W w1 : World} (hb : Below W.heap.size W w1) : (∀ b o, b < W.heap.size → w1.cell? ⟨b, o, none⟩ = W.cell? ⟨b, o, none⟩) ∧ (∀ b o, b < W.heap.size → w1.frozen? ⟨b, o, none⟩ = W.frozen? ⟨b, o, none⟩) :=
  ⟨fun b o h => hb.cell (p := ⟨b, o, none⟩) h, fun b o h => hb.frozen (p := ⟨b, o, none⟩) h⟩

/-! ### A block known whole -/
/-- no one of the first n cells is frozen -/
def NoFz (fz : Nat × Nat) (n : Nat) : Prop := ∀ i, i < n → ¬ (fz.1 ≤ i ∧ i < fz.2)
theorem noFz0 (n : Nat) : NoFz (0, 0) n := fun i _ h => by simp at h
def Blk (w : World) (g : Nat) (t : TypeId) (cs : Array Value) : Prop := ∃ fz, w.heap[g]? = some (.cells cs t fz) ∧ NoFz fz cs.size
section
variable {w w' : World} {g : Nat} {t : TypeId} {cs : Array Value}
theorem Blk.mk0 (h : w.heap[g]? = some (.cells cs t (0, 0))) : Blk w g t cs := ⟨_, h, noFz0 _⟩
theorem Blk.lt (h : Blk w g t cs) : g < w.heap.size := by
  obtain ⟨fz, h, _⟩ := h
  rcases Nat.lt_or_ge g w.heap.size with hlt | hge
  · exact hlt
  · rw [Array.getElem?_eq_none hge] at h; cases h
theorem Blk.move (h : Blk w g t cs) (e : w'.heap[g]? = w.heap[g]?) : Blk w' g t cs := by
  obtain ⟨fz, h, k⟩ := h
  exact ⟨fz, e.trans h, k⟩
theorem Blk.cell (h : Blk w g t cs) (i : Nat) : w.cell? ⟨g, i, none⟩ = cs[i]? := by
  obtain ⟨fz, h, _⟩ := h
  exact cell_of_row w g i cs t fz h
theorem Blk.frozen (h : Blk w g t cs) (i : Nat) (hi : i < cs.size) : w.frozen? ⟨g, i, none⟩ = false := by
  obtain ⟨fz, h, k⟩ := h
  obtain ⟨lo, hi'⟩ := fz
  have := k i hi
  simp only [World.frozen?, h]
  simp only [Bool.and_eq_false_iff, decide_eq_false_iff_not]
  simp only at this
  omega
theorem Blk.new (w : World) (t : TypeId) (cs : Array Value) : Blk (w.alloc (.cells cs t)) w.heap.size t cs := .mk0 (heap_alloc_new w _)
theorem Blk.drew (h : Blk w g t cs) : Blk w.drew g t cs := h
theorem Blk.drewN (h : Blk w g t cs) (n : Nat) : Blk (w.drewN n) g t cs := h
theorem Blk.alloc (h : Blk w g t cs) (o : Obj) : Blk (w.alloc o) g t cs := h.move (Below.heap_alloc w o g h.lt)
theorem Blk.set_ (h : Blk w g t cs) (i : Nat) (u : Value) : Blk (w.setCell ⟨g, i, none⟩ u) g t (cs.setIfInBounds i u) := by
  obtain ⟨fz, h, k⟩ := h
  refine ⟨fz, ?_, by simpa using k⟩
  simp [World.setCell, Array.getElem?_modify, h]
theorem Blk.far (h : Blk w g t cs) {p : Addr} (hp : g ≠ p.block) (u : Value) : Blk (w.setCell p u) g t cs := h.move (Below.heap_setCell w p u g hp)
theorem Blk.below {B : Nat} (h : Blk w g t cs) (hb : Below B w w') (hg : g < B) : Blk w' g t cs := h.move (hb.block g hg)
theorem Blk.after (h : Blk w g t cs) (hb : Below w.heap.size w w') : Blk w' g t cs := h.move (hb.block g h.lt)
theorem Blk.reads {size n : Nat} (h : Blk w g t cs) (hl : cs.size = n * size := by simp) : Reads w (fun b => b = g) size (some ⟨g, 0, none⟩) n cs.toList := by
  refine ⟨by simpa using hl, fun _ => ⟨_, rfl, rfl, fun j u hu => ?_⟩⟩
  have e : (⟨g, 0, none⟩ : Addr).add j = ⟨g, j, none⟩ := by
    unfold Addr.add
    split
    · subst_vars; rfl
    · simp
  rw [e, h.cell]
  simpa using hu
theorem Blk.rules (h : Blk w g t cs) : (∀ i, w.cell? ⟨g, i, none⟩ = cs[i]?) ∧ (∀ i, i < cs.size → w.frozen? ⟨g, i, none⟩ = false) := ⟨h.cell, h.frozen⟩
end

theorem undrew {B : Nat} {w w' : World} (h : Below B w.drew w') : Below B w w' := ⟨h.os, h.tape, h.output, h.size, h.block⟩
theorem Blk.new1 (w : World) (o : Obj) (t : TypeId) (cs : Array Value) : Blk ((w.alloc o).alloc (.cells cs t)) (w.heap.size + 1) t cs := by
  have := Blk.new (w.alloc o) t cs
  simpa using this

/-! ### The world under a name: what is known of it is kept, its make forgotten -/
theorem Blk.new_ {w : World} {g : Nat} {t : TypeId} {cs : Array Value} (hg : g = w.heap.size) : Blk (w.alloc (.cells cs t)) g t cs := hg ▸ Blk.new w t cs
theorem at_code0 {P : Program} {c : Code} {Q : Exit → Act → World → Prop} {a : Act} {w : World} (J : World → Prop) (hJ : J w) (h : ∀ W, J W → c.wp P Q a W) : c.wp P Q a w := h w hJ
theorem at_call0 {P : Program} {f : FuncId} {args : Array Value} {R : Ending → World → Prop} {w : World} (J : World → Prop) (hJ : J w) (h : ∀ W, J W → Calls P f args W R) : Calls P f args w R := h w hJ
theorem at_code1 {P : Program} {c : Code} {Q : Exit → Act → World → Prop} {a : Act} {w : World} {c0 : Array Value} (g0 : Nat) (t0 : TypeId) (J : World → Prop) (k0 : Blk w g0 t0 c0) (hJ : J w) (h : ∀ W, Blk W g0 t0 c0 → J W → c.wp P Q a W) : c.wp P Q a w := h w k0 hJ
theorem at_call1 {P : Program} {f : FuncId} {args : Array Value} {R : Ending → World → Prop} {w : World} {c0 : Array Value} (g0 : Nat) (t0 : TypeId) (J : World → Prop) (k0 : Blk w g0 t0 c0) (hJ : J w) (h : ∀ W, Blk W g0 t0 c0 → J W → Calls P f args W R) : Calls P f args w R := h w k0 hJ
theorem at_code2 {P : Program} {c : Code} {Q : Exit → Act → World → Prop} {a : Act} {w : World} {c0 c1 : Array Value} (g0 : Nat) (t0 : TypeId) (g1 : Nat) (t1 : TypeId) (J : World → Prop) (k0 : Blk w g0 t0 c0) (k1 : Blk w g1 t1 c1) (hJ : J w) (h : ∀ W, Blk W g0 t0 c0 → Blk W g1 t1 c1 → J W → c.wp P Q a W) : c.wp P Q a w := h w k0 k1 hJ
theorem at_call2 {P : Program} {f : FuncId} {args : Array Value} {R : Ending → World → Prop} {w : World} {c0 c1 : Array Value} (g0 : Nat) (t0 : TypeId) (g1 : Nat) (t1 : TypeId) (J : World → Prop) (k0 : Blk w g0 t0 c0) (k1 : Blk w g1 t1 c1) (hJ : J w) (h : ∀ W, Blk W g0 t0 c0 → Blk W g1 t1 c1 → J W → Calls P f args W R) : Calls P f args w R := h w k0 k1 hJ
theorem at_code3 {P : Program} {c : Code} {Q : Exit → Act → World → Prop} {a : Act} {w : World} {c0 c1 c2 : Array Value} (g0 : Nat) (t0 : TypeId) (g1 : Nat) (t1 : TypeId) (g2 : Nat) (t2 : TypeId) (J : World → Prop) (k0 : Blk w g0 t0 c0) (k1 : Blk w g1 t1 c1) (k2 : Blk w g2 t2 c2) (hJ : J w) (h : ∀ W, Blk W g0 t0 c0 → Blk W g1 t1 c1 → Blk W g2 t2 c2 → J W → c.wp P Q a W) : c.wp P Q a w := h w k0 k1 k2 hJ
theorem at_call3 {P : Program} {f : FuncId} {args : Array Value} {R : Ending → World → Prop} {w : World} {c0 c1 c2 : Array Value} (g0 : Nat) (t0 : TypeId) (g1 : Nat) (t1 : TypeId) (g2 : Nat) (t2 : TypeId) (J : World → Prop) (k0 : Blk w g0 t0 c0) (k1 : Blk w g1 t1 c1) (k2 : Blk w g2 t2 c2) (hJ : J w) (h : ∀ W, Blk W g0 t0 c0 → Blk W g1 t1 c1 → Blk W g2 t2 c2 → J W → Calls P f args W R) : Calls P f args w R := h w k0 k1 k2 hJ
theorem at_code4 {P : Program} {c : Code} {Q : Exit → Act → World → Prop} {a : Act} {w : World} {c0 c1 c2 c3 : Array Value} (g0 : Nat) (t0 : TypeId) (g1 : Nat) (t1 : TypeId) (g2 : Nat) (t2 : TypeId) (g3 : Nat) (t3 : TypeId) (J : World → Prop) (k0 : Blk w g0 t0 c0) (k1 : Blk w g1 t1 c1) (k2 : Blk w g2 t2 c2) (k3 : Blk w g3 t3 c3) (hJ : J w) (h : ∀ W, Blk W g0 t0 c0 → Blk W g1 t1 c1 → Blk W g2 t2 c2 → Blk W g3 t3 c3 → J W → c.wp P Q a W) : c.wp P Q a w := h w k0 k1 k2 k3 hJ
theorem at_call4 {P : Program} {f : FuncId} {args : Array Value} {R : Ending → World → Prop} {w : World} {c0 c1 c2 c3 : Array Value} (g0 : Nat) (t0 : TypeId) (g1 : Nat) (t1 : TypeId) (g2 : Nat) (t2 : TypeId) (g3 : Nat) (t3 : TypeId) (J : World → Prop) (k0 : Blk w g0 t0 c0) (k1 : Blk w g1 t1 c1) (k2 : Blk w g2 t2 c2) (k3 : Blk w g3 t3 c3) (hJ : J w) (h : ∀ W, Blk W g0 t0 c0 → Blk W g1 t1 c1 → Blk W g2 t2 c2 → Blk W g3 t3 c3 → J W → Calls P f args W R) : Calls P f args w R := h w k0 k1 k2 k3 hJ
theorem at_code5 {P : Program} {c : Code} {Q : Exit → Act → World → Prop} {a : Act} {w : World} {c0 c1 c2 c3 c4 : Array Value} (g0 : Nat) (t0 : TypeId) (g1 : Nat) (t1 : TypeId) (g2 : Nat) (t2 : TypeId) (g3 : Nat) (t3 : TypeId) (g4 : Nat) (t4 : TypeId) (J : World → Prop) (k0 : Blk w g0 t0 c0) (k1 : Blk w g1 t1 c1) (k2 : Blk w g2 t2 c2) (k3 : Blk w g3 t3 c3) (k4 : Blk w g4 t4 c4) (hJ : J w) (h : ∀ W, Blk W g0 t0 c0 → Blk W g1 t1 c1 → Blk W g2 t2 c2 → Blk W g3 t3 c3 → Blk W g4 t4 c4 → J W → c.wp P Q a W) : c.wp P Q a w := h w k0 k1 k2 k3 k4 hJ
theorem at_call5 {P : Program} {f : FuncId} {args : Array Value} {R : Ending → World → Prop} {w : World} {c0 c1 c2 c3 c4 : Array Value} (g0 : Nat) (t0 : TypeId) (g1 : Nat) (t1 : TypeId) (g2 : Nat) (t2 : TypeId) (g3 : Nat) (t3 : TypeId) (g4 : Nat) (t4 : TypeId) (J : World → Prop) (k0 : Blk w g0 t0 c0) (k1 : Blk w g1 t1 c1) (k2 : Blk w g2 t2 c2) (k3 : Blk w g3 t3 c3) (k4 : Blk w g4 t4 c4) (hJ : J w) (h : ∀ W, Blk W g0 t0 c0 → Blk W g1 t1 c1 → Blk W g2 t2 c2 → Blk W g3 t3 c3 → Blk W g4 t4 c4 → J W → Calls P f args W R) : Calls P f args w R := h w k0 k1 k2 k3 k4 hJ
theorem at_code6 {P : Program} {c : Code} {Q : Exit → Act → World → Prop} {a : Act} {w : World} {c0 c1 c2 c3 c4 c5 : Array Value} (g0 : Nat) (t0 : TypeId) (g1 : Nat) (t1 : TypeId) (g2 : Nat) (t2 : TypeId) (g3 : Nat) (t3 : TypeId) (g4 : Nat) (t4 : TypeId) (g5 : Nat) (t5 : TypeId) (J : World → Prop) (k0 : Blk w g0 t0 c0) (k1 : Blk w g1 t1 c1) (k2 : Blk w g2 t2 c2) (k3 : Blk w g3 t3 c3) (k4 : Blk w g4 t4 c4) (k5 : Blk w g5 t5 c5) (hJ : J w) (h : ∀ W, Blk W g0 t0 c0 → Blk W g1 t1 c1 → Blk W g2 t2 c2 → Blk W g3 t3 c3 → Blk W g4 t4 c4 → Blk W g5 t5 c5 → J W → c.wp P Q a W) : c.wp P Q a w := h w k0 k1 k2 k3 k4 k5 hJ
theorem at_call6 {P : Program} {f : FuncId} {args : Array Value} {R : Ending → World → Prop} {w : World} {c0 c1 c2 c3 c4 c5 : Array Value} (g0 : Nat) (t0 : TypeId) (g1 : Nat) (t1 : TypeId) (g2 : Nat) (t2 : TypeId) (g3 : Nat) (t3 : TypeId) (g4 : Nat) (t4 : TypeId) (g5 : Nat) (t5 : TypeId) (J : World → Prop) (k0 : Blk w g0 t0 c0) (k1 : Blk w g1 t1 c1) (k2 : Blk w g2 t2 c2) (k3 : Blk w g3 t3 c3) (k4 : Blk w g4 t4 c4) (k5 : Blk w g5 t5 c5) (hJ : J w) (h : ∀ W, Blk W g0 t0 c0 → Blk W g1 t1 c1 → Blk W g2 t2 c2 → Blk W g3 t3 c3 → Blk W g4 t4 c4 → Blk W g5 t5 c5 → J W → Calls P f args W R) : Calls P f args w R := h w k0 k1 k2 k3 k4 k5 hJ
theorem at_code7 {P : Program} {c : Code} {Q : Exit → Act → World → Prop} {a : Act} {w : World} {c0 c1 c2 c3 c4 c5 c6 : Array Value} (g0 : Nat) (t0 : TypeId) (g1 : Nat) (t1 : TypeId) (g2 : Nat) (t2 : TypeId) (g3 : Nat) (t3 : TypeId) (g4 : Nat) (t4 : TypeId) (g5 : Nat) (t5 : TypeId) (g6 : Nat) (t6 : TypeId) (J : World → Prop) (k0 : Blk w g0 t0 c0) (k1 : Blk w g1 t1 c1) (k2 : Blk w g2 t2 c2) (k3 : Blk w g3 t3 c3) (k4 : Blk w g4 t4 c4) (k5 : Blk w g5 t5 c5) (k6 : Blk w g6 t6 c6) (hJ : J w) (h : ∀ W, Blk W g0 t0 c0 → Blk W g1 t1 c1 → Blk W g2 t2 c2 → Blk W g3 t3 c3 → Blk W g4 t4 c4 → Blk W g5 t5 c5 → Blk W g6 t6 c6 → J W → c.wp P Q a W) : c.wp P Q a w := h w k0 k1 k2 k3 k4 k5 k6 hJ
theorem at_call7 {P : Program} {f : FuncId} {args : Array Value} {R : Ending → World → Prop} {w : World} {c0 c1 c2 c3 c4 c5 c6 : Array Value} (g0 : Nat) (t0 : TypeId) (g1 : Nat) (t1 : TypeId) (g2 : Nat) (t2 : TypeId) (g3 : Nat) (t3 : TypeId) (g4 : Nat) (t4 : TypeId) (g5 : Nat) (t5 : TypeId) (g6 : Nat) (t6 : TypeId) (J : World → Prop) (k0 : Blk w g0 t0 c0) (k1 : Blk w g1 t1 c1) (k2 : Blk w g2 t2 c2) (k3 : Blk w g3 t3 c3) (k4 : Blk w g4 t4 c4) (k5 : Blk w g5 t5 c5) (k6 : Blk w g6 t6 c6) (hJ : J w) (h : ∀ W, Blk W g0 t0 c0 → Blk W g1 t1 c1 → Blk W g2 t2 c2 → Blk W g3 t3 c3 → Blk W g4 t4 c4 → Blk W g5 t5 c5 → Blk W g6 t6 c6 → J W → Calls P f args W R) : Calls P f args w R := h w k0 k1 k2 k3 k4 k5 k6 hJ
theorem at_code8 {P : Program} {c : Code} {Q : Exit → Act → World → Prop} {a : Act} {w : World} {c0 c1 c2 c3 c4 c5 c6 c7 : Array Value} (g0 : Nat) (t0 : TypeId) (g1 : Nat) (t1 : TypeId) (g2 : Nat) (t2 : TypeId) (g3 : Nat) (t3 : TypeId) (g4 : Nat) (t4 : TypeId) (g5 : Nat) (t5 : TypeId) (g6 : Nat) (t6 : TypeId) (g7 : Nat) (t7 : TypeId) (J : World → Prop) (k0 : Blk w g0 t0 c0) (k1 : Blk w g1 t1 c1) (k2 : Blk w g2 t2 c2) (k3 : Blk w g3 t3 c3) (k4 : Blk w g4 t4 c4) (k5 : Blk w g5 t5 c5) (k6 : Blk w g6 t6 c6) (k7 : Blk w g7 t7 c7) (hJ : J w) (h : ∀ W, Blk W g0 t0 c0 → Blk W g1 t1 c1 → Blk W g2 t2 c2 → Blk W g3 t3 c3 → Blk W g4 t4 c4 → Blk W g5 t5 c5 → Blk W g6 t6 c6 → Blk W g7 t7 c7 → J W → c.wp P Q a W) : c.wp P Q a w := h w k0 k1 k2 k3 k4 k5 k6 k7 hJ
theorem at_call8 {P : Program} {f : FuncId} {args : Array Value} {R : Ending → World → Prop} {w : World} {c0 c1 c2 c3 c4 c5 c6 c7 : Array Value} (g0 : Nat) (t0 : TypeId) (g1 : Nat) (t1 : TypeId) (g2 : Nat) (t2 : TypeId) (g3 : Nat) (t3 : TypeId) (g4 : Nat) (t4 : TypeId) (g5 : Nat) (t5 : TypeId) (g6 : Nat) (t6 : TypeId) (g7 : Nat) (t7 : TypeId) (J : World → Prop) (k0 : Blk w g0 t0 c0) (k1 : Blk w g1 t1 c1) (k2 : Blk w g2 t2 c2) (k3 : Blk w g3 t3 c3) (k4 : Blk w g4 t4 c4) (k5 : Blk w g5 t5 c5) (k6 : Blk w g6 t6 c6) (k7 : Blk w g7 t7 c7) (hJ : J w) (h : ∀ W, Blk W g0 t0 c0 → Blk W g1 t1 c1 → Blk W g2 t2 c2 → Blk W g3 t3 c3 → Blk W g4 t4 c4 → Blk W g5 t5 c5 → Blk W g6 t6 c6 → Blk W g7 t7 c7 → J W → Calls P f args W R) : Calls P f args w R := h w k0 k1 k2 k3 k4 k5 k6 k7 hJ

/-! ### What cells stand for -/

/-- How things of a kind lie in cells: 'at_ w D cs x': the cells cs stand for x, in w, and all that they lead to lies in blocks of D. -/
structure Rp (α : Type) where
  size : Nat
  pos : 0 < size
  at_ : World → (Nat → Prop) → List Value → α → Prop
  len : ∀ {w D cs x}, at_ w D cs x → cs.length = size
  keep : ∀ {w w' : World} {D D' : Nat → Prop} {cs : List Value} {x : α}, Holds D w w' → (∀ b, D b → b < w.heap.size → D' b) → at_ w D cs x → at_ w' D' cs x
  one : ∀ {w D cs x}, at_ w D cs x → ∀ u ∈ cs, u.oneCell' = true

/-- an integer -/
def Rp.int (k : IntKind) : Rp Int where
  size := 1
  pos := by omega
  at_ := fun _ _ cs x => cs = [.int k x]
  len := by rintro _ _ _ _ rfl; rfl
  keep := by rintro _ _ _ _ _ _ _ _ rfl; rfl
  one := by rintro _ _ _ _ rfl u hu; simp at hu; subst hu; rfl

def Rp.bool : Rp Bool where
  size := 1
  pos := by omega
  at_ := fun _ _ cs x => cs = [.bool x]
  len := by rintro _ _ _ _ rfl; rfl
  keep := by rintro _ _ _ _ _ _ _ _ rfl; rfl
  one := by rintro _ _ _ _ rfl u hu; simp at hu; subst hu; rfl

/-! ### Where a call's data lie: in D (what came in), or in blocks from B on (the call's own), but not in the boxes L. -/
def dom (D : Nat → Prop) (B : Nat) (L : List Nat) (w : World) : Nat → Prop := fun b => b < w.heap.size ∧ (D b ∨ B ≤ b) ∧ b ∉ L

section
variable {α : Type} (R : Rp α) {w w' W w1 : World} {D : Nat → Prop} {B : Nat} {L : List Nat} {cs : List Value} {x : α}
theorem Rp.start (h : R.at_ w D cs x) : R.at_ w (dom D w.heap.size [] w) cs x := R.keep Holds.refl (fun b hb hl => ⟨hl, .inl hb, by simp⟩) h
theorem Rp.after (h : R.at_ w (dom D B L w) cs x) (hb : Below w.heap.size w w') : R.at_ w' (dom D B L w') cs x :=
  R.keep (Holds.below hb) (fun b h _ => ⟨Nat.lt_of_lt_of_le h.1 hb.size, h.2⟩) h
theorem Rp.alloc (h : R.at_ w (dom D B L w) cs x) (o : Obj) : R.at_ (w.alloc o) (dom D B L (w.alloc o)) cs x :=
  R.keep (Holds.alloc o) (fun b h _ => ⟨by have := h.1; simp; omega, h.2⟩) h
theorem Rp.boxed (h : R.at_ w (dom D B L w) cs x) (hb : Below w.heap.size w w') {L' : List Nat} (hL : ∀ g ∈ L', g ∈ L ∨ w.heap.size ≤ g) : R.at_ w' (dom D B L' w') cs x :=
  R.keep (Holds.below hb) (fun b h _ => ⟨Nat.lt_of_lt_of_le h.1 hb.size, h.2.1, fun hm => by
    rcases hL _ hm with h1 | h1
    · exact h.2.2 h1
    · have := h.1
      omega⟩) h
theorem Rp.stored (h : R.at_ w (dom D B L w) cs x) {p : Addr} (hp : p.block ∈ L) (u : Value) : R.at_ (w.setCell p u) (dom D B L (w.setCell p u)) cs x :=
  R.keep (Holds.setCell (fun hd => hd.2.2 hp) u) (fun b h _ => ⟨by simpa [World.setCell] using h.1, h.2⟩) h
theorem Rp.called (h : R.at_ w1 (dom (dom D B L W) W.heap.size [] w1) cs x) (hL : ∀ g ∈ L, g < W.heap.size) (hB : B ≤ W.heap.size) : R.at_ w1 (dom D B L w1) cs x :=
  R.keep Holds.refl (fun b h _ => by
    refine ⟨h.1, ?_, ?_⟩
    · rcases h.2.1 with h1 | h1
      · exact h1.2.1
      · exact .inr (Nat.le_trans hB h1)
    · intro hm
      rcases h.2.1 with h1 | h1
      · exact h1.2.2 hm
      · have := hL _ hm
        omega) h
theorem Rp.step (h : R.at_ w (dom D B L w) cs x) (hh : Holds (dom D B L w) w w') (hs : w.heap.size ≤ w'.heap.size) {L' : List Nat} (hL : ∀ g ∈ L', g ∈ L ∨ w.heap.size ≤ g) : R.at_ w' (dom D B L' w') cs x :=
  R.keep hh (fun b h _ => ⟨Nat.lt_of_lt_of_le h.1 hs, h.2.1, fun hm => by
    rcases hL _ hm with h1 | h1
    · exact h.2.2 h1
    · have := h.1
      omega⟩) h
theorem Holds.alloc_ {D : Nat → Prop} {v w : World} (h : Holds D v w) (o : Obj) : Holds D v (w.alloc o) := fun p u hp hc => Holds.alloc (D := D) o p u hp (h p u hp hc)
theorem Holds.drew_ {D : Nat → Prop} {v w : World} (h : Holds D v w) : Holds D v w.drew := h
theorem Holds.drewN_ {D : Nat → Prop} {v w : World} (h : Holds D v w) (n : Nat) : Holds D v (w.drewN n) := h
theorem Holds.setCell_ {D : Nat → Prop} {v w : World} (h : Holds D v w) {p : Addr} (hp : ¬ D p.block) (u : Value) : Holds D v (w.setCell p u) := fun q x hq hc => Holds.setCell hp u q x hq (h q x hq hc)
theorem Holds.below_ {D : Nat → Prop} {v w w' : World} (h : Holds D v w) (hb : Below w.heap.size w w') : Holds D v w' := fun q x hq hc => Holds.below hb q x hq (h q x hq hc)
theorem not_dom_box {b : Nat} (h : b ∈ L) : ¬ dom D B L w b := fun hd => hd.2.2 h
theorem not_dom_new {b : Nat} (h : w.heap.size ≤ b) : ¬ dom D B L w b := fun hd => by have := hd.1; omega
theorem Rp.ends (h : R.at_ w (dom D B L w) cs x) : R.at_ w (dom D B [] w) cs x := R.keep Holds.refl (fun b h _ => ⟨h.1, h.2.1, by simp⟩) h
theorem dom_lt {b : Nat} (h : dom D B L w b) : b < w.heap.size := h.1
end

/-- two rows, place by place -/
def All2 {α β : Type} (R : α → β → Prop) : List α → List β → Prop
  | [], [] => True
  | a :: as, b :: bs => R a b ∧ All2 R as bs
  | _, _ => False

section
variable {α β : Type} {R : α → β → Prop}
theorem All2.length : ∀ {as : List α} {bs : List β}, All2 R as bs → as.length = bs.length
  | [], [], _ => rfl
  | _ :: _, _ :: _, h => by simp [All2.length h.2]
  | [], _ :: _, h => h.elim
  | _ :: _, [], h => h.elim
theorem All2.imp {S : α → β → Prop} (f : ∀ a b, R a b → S a b) : ∀ {as : List α} {bs : List β}, All2 R as bs → All2 S as bs
  | [], [], _ => trivial
  | _ :: _, _ :: _, h => ⟨f _ _ h.1, All2.imp f h.2⟩
  | [], _ :: _, h => h.elim
  | _ :: _, [], h => h.elim
theorem All2.append : ∀ {as : List α} {bs : List β} {cs : List α} {ds : List β}, All2 R as bs → All2 R cs ds → All2 R (as ++ cs) (bs ++ ds)
  | [], [], _, _, _, h => h
  | _ :: _, _ :: _, _, _, h, k => ⟨h.1, All2.append h.2 k⟩
  | [], _ :: _, _, _, h, _ => h.elim
  | _ :: _, [], _, _, h, _ => h.elim
theorem All2.get : ∀ {as : List α} {bs : List β}, All2 R as bs → ∀ {i : Nat} {b : β}, bs[i]? = some b → ∃ a, as[i]? = some a ∧ R a b
  | [], [], _, _, _, hi => by simp at hi
  | a :: _, b' :: _, h, 0, b, hi => by
    simp at hi
    subst hi
    exact ⟨a, rfl, h.1⟩
  | _ :: _, _ :: _, h, i + 1, _, hi => by
    obtain ⟨a, ha, hr⟩ := All2.get h.2 (i := i) (by simpa using hi)
    exact ⟨a, by simpa using ha, hr⟩
  | [], _ :: _, h, _, _, _ => h.elim
  | _ :: _, [], h, _, _, _ => h.elim
theorem All2.take : ∀ {as : List α} {bs : List β}, All2 R as bs → ∀ n, All2 R (as.take n) (bs.take n)
  | [], [], _, n => by simp [All2]
  | _ :: _, _ :: _, _, 0 => by simp [All2]
  | _ :: _, _ :: _, h, n + 1 => ⟨h.1, All2.take h.2 n⟩
  | [], _ :: _, h, _ => h.elim
  | _ :: _, [], h, _ => h.elim
theorem All2.drop : ∀ {as : List α} {bs : List β}, All2 R as bs → ∀ n, All2 R (as.drop n) (bs.drop n)
  | [], [], _, n => by simp [All2]
  | _ :: _, _ :: _, h, 0 => h
  | _ :: _, _ :: _, h, n + 1 => All2.drop h.2 n
  | [], _ :: _, h, _ => h.elim
  | _ :: _, [], h, _ => h.elim
theorem All2.mem_left : ∀ {as : List α} {bs : List β}, All2 R as bs → ∀ a ∈ as, ∃ b ∈ bs, R a b
  | [], [], _, _, ha => by simp at ha
  | a' :: _, b' :: _, h, a, ha => by
    rcases List.mem_cons.1 ha with rfl | ha
    · exact ⟨b', by simp, h.1⟩
    · obtain ⟨b, hb, hr⟩ := All2.mem_left h.2 a ha
      exact ⟨b, by simp [hb], hr⟩
  | [], _ :: _, h, _, _ => h.elim
  | _ :: _, [], h, _, _ => h.elim
end

/-- the cells css stand for the things l, one by one -/
def Rp.rows {α : Type} (R : Rp α) (w : World) (D : Nat → Prop) (css : List (List Value)) (l : List α) : Prop := All2 (fun cs x => R.at_ w D cs x) css l

theorem flatten_len {size : Nat} : ∀ {css : List (List Value)}, (∀ cs ∈ css, cs.length = size) → css.flatten.length = css.length * size
  | [], _ => by simp
  | c :: css, h => by
    have := flatten_len (css := css) fun cs hc => h cs (by simp [hc])
    have h0 := h c (by simp)
    simp [this, h0, Nat.add_mul, Nat.add_comm]

theorem flatten_get {size : Nat} : ∀ {css : List (List Value)}, (∀ cs ∈ css, cs.length = size) → ∀ {i : Nat} {cs : List Value}, css[i]? = some cs → ∀ {j : Nat} {u : Value}, cs[j]? = some u → css.flatten[i * size + j]? = some u
  | [], _, _, _, hi, _, _, _ => by simp at hi
  | c :: css, h, 0, cs, hi, j, u, hj => by
    simp at hi
    subst hi
    have hl : j < c.length := (List.getElem?_eq_some_iff.1 hj).1
    simp [List.getElem?_append_left hl, hj]
  | c :: css, h, i + 1, cs, hi, j, u, hj => by
    have h0 := h c (by simp)
    have := flatten_get (css := css) (fun cs hc => h cs (by simp [hc])) (i := i) (by simpa using hi) hj
    rw [List.flatten_cons, List.getElem?_append_right (by rw [h0, Nat.add_mul]; omega)]
    rw [← this]
    congr 1
    rw [h0, Nat.add_mul]
    omega

theorem Rp.rows_len {α : Type} {R : Rp α} {w : World} {D : Nat → Prop} {css : List (List Value)} {l : List α} (h : R.rows w D css l) : ∀ cs ∈ css, cs.length = R.size := fun cs hc => by
  obtain ⟨_, _, hr⟩ := All2.mem_left h cs hc
  exact R.len hr
theorem Rp.rows_one {α : Type} {R : Rp α} {w : World} {D : Nat → Prop} {css : List (List Value)} {l : List α} (h : R.rows w D css l) : ∀ u ∈ css.flatten, u.oneCell' = true := fun u hu => by
  obtain ⟨cs, hc, hu⟩ := List.mem_flatten.1 hu
  obtain ⟨_, _, hr⟩ := All2.mem_left h cs hc
  exact R.one hr u hu

/-- a slice of such things: nil, empty or not -/
def Rp.slice {α : Type} (R : Rp α) : Rp (List α) where
  size := 1
  pos := by omega
  at_ := fun w D cs l => ∃ A c css, cs = [.slice A l.length c] ∧ l.length ≤ c ∧ R.rows w D css l ∧ Reads w D R.size A l.length css.flatten
  len := by rintro _ _ _ _ ⟨A, c, css, rfl, _⟩; rfl
  keep := by
    rintro w w' D D' cs l hk hD ⟨A, c, css, rfl, hc, hr, h⟩
    exact ⟨A, c, css, rfl, hc, All2.imp (fun a b => R.keep hk hD) hr, h.keep hk hD R.pos⟩
  one := by rintro _ _ _ _ ⟨A, c, css, rfl, _⟩ u hu; simp at hu; subst hu; rfl

section
variable {α : Type} {R : Rp α} {w : World} {D : Nat → Prop}
theorem Rp.slice_nil : R.slice.at_ w D [.slice none 0 0] [] := ⟨none, 0, [], rfl, Nat.le_refl _, trivial, by simpa using Reads.none_⟩

theorem Reads.mono {D D' : Nat → Prop} {size n : Nat} {A : Option Addr} {xs : List Value} (h : Reads w D size A n xs) (hD : ∀ b, D b → D' b) : Reads w D' size A n xs :=
  ⟨h.1, fun hn => by
    obtain ⟨ad, e, hb, hc⟩ := h.2 hn
    exact ⟨ad, e, hD _ hb, hc⟩⟩

/-- of a row of the call's own -/
theorem Rp.slice_of_own {base : Nat} {e : TypeId} {v : Value} {css : List (List Value)} {l : List α} (hr : R.rows w D css l) (h : w.ownsRow base e R.size v l.length css.flatten) (hD : ∀ b, base ≤ b → b < w.heap.size → D b) :
    R.slice.at_ w D [v] l := by
  rcases h.2 with ⟨rfl, h0⟩ | ⟨g, cap, cur, rfl, hg, hh, hnc, _⟩
  · have : l = [] := List.eq_nil_of_length_eq_zero h0
    subst this
    exact Rp.slice_nil
  · exact ⟨_, cap, css, rfl, hnc, hr, (Reads.of_own h).mono fun b hb => hD b hb.1 hb.2⟩
end

end Go.Proofs.YtlijlapkhimaoaaGreatDoor
